/- Merged texts: part 4. No conditions of their own. -/
import Derived.Test.YtmbaennilhdieaaGreatG3
/- Pure functions and contracts of Go functions (printed by all3.py). -/
namespace Go.Proofs.YtmbaennilhdieaaGreat
open Go.RowKit Asn
set_option maxRecDepth 20000
def r19_Has_O (N : Nat) (a0 : DMemory) (a1 : Int) : Option Bool :=
 bif decide (a1 < 1) then (some false) else (bif decide (a1.tmod 2 = 1) then (req (in64 (a1 - 1)) (req (in64 ((a1 - 1).tdiv 2)) (some (decide ((a1 - 1).tdiv 2 < (a0.Young.length : Int)))))) else (req (in64 (a1 - 2)) (req (in64 ((a1 - 2).tdiv 2)) (some (decide ((a1 - 2).tdiv 2 < (a0.Old.length : Int)))))))
def r19_At_O (N : Nat) (a0 : DMemory) (a1 : Int) : Option DCell :=
 (r19_Has_O N a0 a1).bind fun y5 => bif !y5 then (some (⟨0, 0, 0, 0, [], []⟩ : DCell)) else (bif decide (a1.tmod 2 = 1) then (req (in64 (a1 - 1)) (req (in64 ((a1 - 1).tdiv 2)) ((getE a0.Young ((a1 - 1).tdiv 2)).bind fun x12 => some x12))) else (req (in64 (a1 - 2)) (req (in64 ((a1 - 2).tdiv 2)) ((getE a0.Old ((a1 - 2).tdiv 2)).bind fun x18 => some x18))))
def slices_IndexFunc_j2 (N : Nat) (ff : Int → Option Bool) : Option Int :=
 some (-1)
def slices_IndexFunc_l3 (N : Nat) (ff : Int → Option Bool) (a0 : (List Int)) : Nat → Int → Option Int
 | 0, _ => none
 | m3 + 1, p4 => bif decide (p4 < (a0.length : Int)) then ((getE a0 p4).bind fun x6 => (ff x6).bind fun y7 => bif y7 then (some p4) else (req (in64 (p4 + 1)) ((slices_IndexFunc_l3 N ff a0 m3) (p4 + 1)))) else (slices_IndexFunc_j2 N ff)
theorem slices_IndexFunc_l3_s {N m3 : Nat} {ff : Int → Option Bool} {a0 : (List Int)} {p4 : Int} : slices_IndexFunc_l3 N ff a0 (m3 + 1) p4 = bif decide (p4 < (a0.length : Int)) then ((getE a0 p4).bind fun x6 => (ff x6).bind fun y7 => bif y7 then (some p4) else (req (in64 (p4 + 1)) ((slices_IndexFunc_l3 N ff a0 m3) (p4 + 1)))) else (slices_IndexFunc_j2 N ff) := rfl
def slices_IndexFunc_O (N : Nat) (a0 : (List Int)) (ff : Int → Option Bool) : Option Int :=
 slices_IndexFunc_l3 N ff a0 N 0
theorem slices_IndexFunc_ok {N : Nat} {a0 : (List Int)} {ff : Int → Option Bool} {r : Int} (h : slices_IndexFunc_O N a0 ff = some r) {A1 : Option Addr} {n1 c1 : Nat} {vf : Value} {G : List Chunk} (hf : FnOk Tryz.prog vf G (fun x => [iV x]) (fun r => .bool r) ff) : Okc Tryz.prog 113 [.slice A1 n1 c1, vf] (kS5 A1 n1 c1 a0 :: G) (fun (u : Value) (post : List Chunk) => u = iV r ∧ post = []) := by
 refine ok_E Tryz.func113 rfl rfl ?_
 simp only [envOf]
 refine run ?_
 refine G_joinF (fun s L => slices_IndexFunc_j2 N ff = some r ∧ s = [(4, iV 0)] ∧ L = G) ?_ ?_
 ·refine run ?_
  refine gR (rd_len 0 rfl els_sl rfl Tryz.underlying35) ?_
  refine run ?_
  refine G_loopF (fun m s L => ∃ (p4 : Int), slices_IndexFunc_l3 N ff a0 m p4 = some r ∧ s = [(0, .slice A1 n1 c1), (1, vf), (4, iV 0), (7, iV (a0.length : Int)), (8, iV p4)] ∧ L = kS5 A1 n1 c1 a0 :: G) N _ _ ⟨0, h, rfl, rfl⟩ sA (cv_sel [0] 1 rfl rfl) ?_
  rintro (_ | m3) _ _ ⟨p4, h, rfl, rfl⟩
  ·exact none_some h
  rw [slices_IndexFunc_l3_s] at h
  refine run ?_
  refine G_seq ?_
  refine G_cond rfl (fun g5 => ?_) (fun g5 => ?_)
  ·replace h := cond_t g5 h
   refine run ?_
   refine G_seq ?_
   refine run ?_
   obtain ⟨x6, hx6, h⟩ := bind_elim h
   obtain ⟨lx6, ux6, hx6⟩ := getE_elim hx6
   refine gR (rd_idx 0 rfl els_sl rfl rfl Tryz.underlying35 size3 lx6 ux6) ?_
   refine gR (rd_elem1 (u := iV x6) 0 rfl els_sl rfl hx6 one3 (fun _ _ _ h => by rw [show _ = _ from h]; rfl)) ?_
   obtain ⟨y7, hy7, h⟩ := bind_elim h
   refine gD (op_callf (a := x6) [kS5 A1 n1 c1 a0] hf hy7 rfl rfl) ?_
   rintro _ _ ⟨rfl, rfl⟩
   refine run ?_
   refine G_cond rfl (fun g8 => ?_) (fun g8 => ?_)
   ·replace h := cond_t g8 h
    refine run ?_
    obtain rfl := Option.some.inj h
    exact endG1 rfl rfl (cv_selD [] 1 rfl rfl) ⟨rfl, rfl⟩
   ·replace h := cond_f g8 h
    refine run ?_
    obtain ⟨q9, h⟩ := req_elim h
    refine gE (ev_add rfl rfl q9.1 q9.2) ?_
    refine run ?_
    exact ⟨m3, _, _, Nat.lt_succ_self _, ⟨p4 + 1, h, rfl, rfl⟩, sA, cv_sel [0] 1 rfl rfl⟩
  ·replace h := cond_f g5 h
   refine run ?_
   exact ⟨_, _, ⟨h, rfl, rfl⟩, sA, cv_sel [] 1 rfl rfl⟩
 ·rintro _ _ ⟨h, rfl, rfl⟩
  refine run ?_
  obtain rfl := Option.some.inj h
  exact endG1 rfl rfl (cv_selD [] 0 rfl rfl) ⟨rfl, rfl⟩
theorem slices_IndexFunc_free {r : Int} : ∀ v post, ((fun (u : Value) (post : List Chunk) => u = iV r ∧ post = [])) v post → ∀ c ∈ post, Free c := by
 rintro _ _ ⟨rfl, rfl⟩; exact mem_nil
def slices_ContainsFunc_O (N : Nat) (a0 : (List Int)) (ff : Int → Option Bool) : Option Bool :=
 (slices_IndexFunc_O N a0 ff).bind fun y2 => some (decide (0 ≤ y2))
theorem slices_ContainsFunc_ok {N : Nat} {a0 : (List Int)} {ff : Int → Option Bool} {r : Bool} (h : slices_ContainsFunc_O N a0 ff = some r) {A1 : Option Addr} {n1 c1 : Nat} {vf : Value} {G : List Chunk} (hf : FnOk Tryz.prog vf G (fun x => [iV x]) (fun r => .bool r) ff) : Okc Tryz.prog 54 [.slice A1 n1 c1, vf] (kS5 A1 n1 c1 a0 :: G) (fun (u : Value) (post : List Chunk) => u = .bool r ∧ post = []) := by
 refine ok_E Tryz.func54 rfl rfl ?_
 simp only [envOf]
 refine run ?_
 obtain ⟨y2, hy2, h⟩ := bind_elim h
 refine gD (op_callR (slices_IndexFunc_ok hy2 hf) call113 rfl (mem_cons (lent_ro (i := 0) rfl rfl) (lent_tail (E := [kS5 A1 n1 c1 a0]) hf.1)) slices_IndexFunc_free) ?_
 rintro _ _ ⟨_, ⟨rfl, rfl⟩, rfl⟩
 refine run ?_
 obtain rfl := Option.some.inj h
 exact endG1 rfl rfl (cv_selD [] 1 rfl rfl) ⟨rfl, rfl⟩
theorem slices_ContainsFunc_free {r : Bool} : ∀ v post, ((fun (u : Value) (post : List Chunk) => u = .bool r ∧ post = [])) v post → ∀ c ∈ post, Free c := by
 rintro _ _ ⟨rfl, rfl⟩; exact mem_nil
def cell_Weakly_O (N : Nat) (a0 : DCell) : Option (List Int) :=
 (cell_addresses_O N a0 false).bind fun y4 => some y4
theorem cell_Weakly_ok {N : Nat} {a0 : DCell} {r : (List Int)} (h : cell_Weakly_O N a0 = some r) {A1 : Option Addr} {n1 c1 : Nat} {A2 : Option Addr} {n2 c2 : Nat} : Okc Tryz.prog 56 [.agg #[iV a0.Kind, iV a0.Shape, iV a0.Flags, iV a0.Age, .slice A1 n1 c1, .slice A2 n2 c2]] ([kS0 A1 n1 c1 a0.Slots, kS0 A2 n2 c2 a0.More]) (fun (u : Value) (post : List Chunk) => ∃ A0 n0 c0, u = .slice A0 n0 c0 ∧ post = [kO2 A0 n0 c0 r]) := by
 refine ok_E Tryz.func56 rfl rfl ?_
 simp only [envOf]
 refine run ?_
 refine gD (op_box rfl rfl) ?_
 rintro _ _ ⟨B3, rfl, rfl⟩
 refine run ?_
 refine gR (rd_boxS (us := [iV a0.Kind, iV a0.Shape, iV a0.Flags, iV a0.Age, .slice A1 n1 c1, .slice A2 n2 c2]) 0 rfl rfl agg32 rfl) ?_
 obtain ⟨y4, hy4, h⟩ := bind_elim h
 refine gD (op_callR (cell_addresses_ok hy4) call114 rfl (mem_cons (lent_ro (i := 1) rfl rfl) (mem_cons (lent_ro (i := 2) rfl rfl) mem_nil)) cell_addresses_free) ?_
 rintro _ _ ⟨_, ⟨A5, n5, c5, rfl, rfl⟩, rfl⟩
 refine run ?_
 obtain rfl := Option.some.inj h
 exact endG1 rfl rfl (cv_sel [0] 4 rfl rfl) ⟨_, _, _, rfl, rfl⟩
theorem cell_Weakly_free {r : (List Int)} : ∀ v post, ((fun (u : Value) (post : List Chunk) => ∃ A0 n0 c0, u = .slice A0 n0 c0 ∧ post = [kO2 A0 n0 c0 r])) v post → ∀ c ∈ post, Free c := by
 rintro _ _ ⟨_, _, _, rfl, rfl⟩; exact mem_cons free_own (mem_nil)
def r15_May_O (N : Nat) (a0 : DValue) : Option Bool :=
 (bif decide (a0.Kind < 0) then (some true) else (some (decide (9 < a0.Kind)))).bind fun b2 => bif b2 then (some false) else (bif decide (a0.Kind = 5) then ((bif decide (a0.N = 0) then (some (decide ((a0.S.size : Int) ≤ 65536))) else (some false)).bind fun b5 => some b5) else (bif !(a0.S.toList == (⟨#[]⟩ : ByteArray).toList) then (some false) else (bif decide (a0.Kind = 2) then ((bif decide (a0.N = 0) then (some true) else (some (decide (a0.N = 1)))).bind fun b8 => some b8) else (bif decide (a0.Kind = 3) then ((bif decide ((-9007199254740992) ≤ a0.N) then (some (decide (a0.N ≤ 9007199254740992))) else (some false)).bind fun b10 => some b10) else ((bif decide (a0.Kind = 6) then (some true) else (some (decide (a0.Kind = 7)))).bind fun b11 => (bif b11 then (some true) else (some (decide (a0.Kind = 9)))).bind fun b12 => bif b12 then (some (decide (1 ≤ a0.N))) else (some (decide (a0.N = 0))))))))
theorem r15_May_ok {N : Nat} {a0 : DValue} {r : Bool} (h : r15_May_O N a0 = some r) : Okc Tryz.prog 144 [.agg #[iV a0.Kind, iV a0.N, .string a0.S]] ([]) (fun (u : Value) (post : List Chunk) => u = .bool r ∧ post = []) := by
 refine ok_E Tryz.func144 rfl rfl ?_
 simp only [envOf]
 refine run ?_
 refine gD (op_box rfl rfl) ?_
 rintro _ _ ⟨B1, rfl, rfl⟩
 refine run ?_
 refine G_seq ?_
 refine run ?_
 obtain ⟨b2, hb2, h⟩ := bind_elim h
 refine G_segb 4 10 b2 ?_ ?_
 ·clear h
  refine G_case 6 rfl (fun g2 => ?_) (fun g2 => ?_)
  ·have h := cond_t g2 hb2
   refine run ?_
   obtain rfl := Option.some.inj h
   exact G_joined sA (cv_sel [0] 1 rfl rfl)
  ·have h := cond_f g2 hb2
   refine run ?_
   obtain rfl := Option.some.inj h
   exact G_joined sA (cv_sel [0] 1 rfl rfl)
 refine run ?_
 refine G_cond rfl (fun g3 => ?_) (fun g3 => ?_)
 ·replace h := cond_t g3 h
  refine run ?_
  obtain rfl := Option.some.inj h
  exact endG1 rfl rfl (cv_sel [] 1 rfl rfl) ⟨rfl, rfl⟩
 ·replace h := cond_f g3 h
  refine run ?_
  refine G_seq ?_
  refine run ?_
  refine G_cond rfl (fun g4 => ?_) (fun g4 => ?_)
  ·replace h := cond_t g4 h
   refine run ?_
   obtain ⟨b5, hb5, h⟩ := bind_elim h
   refine G_segb 5 22 b5 ?_ ?_
   ·clear h
    refine G_case 17 rfl (fun g5 => ?_) (fun g5 => ?_)
    ·have h := cond_t g5 hb5
     refine run ?_
     refine G_ev (ev_lenS rfl Tryz.underlying9) rfl (g_tt g5 rfl) rfl ?_
     refine run ?_
     obtain rfl := Option.some.inj h
     exact G_joined sA (cv_sel [0] 1 rfl rfl)
    ·have h := cond_f g5 hb5
     refine run ?_
     obtain rfl := Option.some.inj h
     exact G_joined sA (cv_sel [0] 1 rfl rfl)
   refine run ?_
   obtain rfl := Option.some.inj h
   exact endG1 rfl rfl (cv_sel [] 1 rfl rfl) ⟨rfl, rfl⟩
  ·replace h := cond_f g4 h
   refine run ?_
   refine G_seq ?_
   refine run ?_
   refine gE (ev_strne rfl rfl) ?_
   refine run ?_
   refine G_cond rfl (fun g6 => ?_) (fun g6 => ?_)
   ·replace h := cond_t g6 h
    refine run ?_
    obtain rfl := Option.some.inj h
    exact endG1 rfl rfl (cv_sel [] 1 rfl rfl) ⟨rfl, rfl⟩
   ·replace h := cond_f g6 h
    refine run ?_
    refine G_seq ?_
    refine run ?_
    refine G_cond rfl (fun g7 => ?_) (fun g7 => ?_)
    ·replace h := cond_t g7 h
     refine run ?_
     obtain ⟨b8, hb8, h⟩ := bind_elim h
     refine G_segb 4 36 b8 ?_ ?_
     ·clear h
      refine G_case 32 rfl (fun g8 => ?_) (fun g8 => ?_)
      ·have h := cond_t g8 hb8
       refine run ?_
       obtain rfl := Option.some.inj h
       exact G_joined sA (cv_sel [0] 1 rfl rfl)
      ·have h := cond_f g8 hb8
       refine run ?_
       obtain rfl := Option.some.inj h
       exact G_joined sA (cv_sel [0] 1 rfl rfl)
     refine run ?_
     obtain rfl := Option.some.inj h
     exact endG1 rfl rfl (cv_sel [] 1 rfl rfl) ⟨rfl, rfl⟩
    ·replace h := cond_f g7 h
     refine run ?_
     refine G_seq ?_
     refine run ?_
     refine G_cond rfl (fun g9 => ?_) (fun g9 => ?_)
     ·replace h := cond_t g9 h
      refine run ?_
      obtain ⟨b10, hb10, h⟩ := bind_elim h
      refine G_segb 4 47 b10 ?_ ?_
      ·clear h
       refine G_case 43 rfl (fun g10 => ?_) (fun g10 => ?_)
       ·have h := cond_t g10 hb10
        refine run ?_
        obtain rfl := Option.some.inj h
        exact G_joined sA (cv_sel [0] 1 rfl rfl)
       ·have h := cond_f g10 hb10
        refine run ?_
        obtain rfl := Option.some.inj h
        exact G_joined sA (cv_sel [0] 1 rfl rfl)
      refine run ?_
      obtain rfl := Option.some.inj h
      exact endG1 rfl rfl (cv_sel [] 1 rfl rfl) ⟨rfl, rfl⟩
     ·replace h := cond_f g9 h
      refine run ?_
      refine G_seq ?_
      refine run ?_
      obtain ⟨b11, hb11, h⟩ := bind_elim h
      refine G_segb 4 55 b11 ?_ ?_
      ·clear h
       refine G_case 51 rfl (fun g11 => ?_) (fun g11 => ?_)
       ·have h := cond_t g11 hb11
        refine run ?_
        obtain rfl := Option.some.inj h
        exact G_joined sA (cv_sel [0] 1 rfl rfl)
       ·have h := cond_f g11 hb11
        refine run ?_
        obtain rfl := Option.some.inj h
        exact G_joined sA (cv_sel [0] 1 rfl rfl)
      refine run ?_
      obtain ⟨b12, hb12, h⟩ := bind_elim h
      refine G_segb 4 60 b12 ?_ ?_
      ·clear h
       refine G_case 56 rfl (fun g12 => ?_) (fun g12 => ?_)
       ·have h := cond_t g12 hb12
        refine run ?_
        obtain rfl := Option.some.inj h
        exact G_joined sA (cv_sel [0] 1 rfl rfl)
       ·have h := cond_f g12 hb12
        refine run ?_
        obtain rfl := Option.some.inj h
        exact G_joined sA (cv_sel [0] 1 rfl rfl)
      refine run ?_
      refine G_cond rfl (fun g13 => ?_) (fun g13 => ?_)
      ·replace h := cond_t g13 h
       refine run ?_
       obtain rfl := Option.some.inj h
       exact endG1 rfl rfl (cv_sel [] 1 rfl rfl) ⟨rfl, rfl⟩
      ·replace h := cond_f g13 h
       refine run ?_
       obtain rfl := Option.some.inj h
       exact endG1 rfl rfl (cv_sel [] 1 rfl rfl) ⟨rfl, rfl⟩
theorem r15_May_free {r : Bool} : ∀ v post, ((fun (u : Value) (post : List Chunk) => u = .bool r ∧ post = [])) v post → ∀ c ∈ post, Free c := by
 rintro _ _ ⟨rfl, rfl⟩; exact mem_nil
def r15_Props_O (N : Nat) (a0 : Int) : Option Bool :=
 (bif decide (a0 = 1) then (some true) else (some (decide (a0 = 2)))).bind fun b1 => (bif b1 then (some true) else (some (decide (a0 = 3)))).bind fun b2 => (bif b2 then (some true) else (some (decide (a0 = 6)))).bind fun b3 => (bif b3 then (some true) else (some (decide (a0 = 8)))).bind fun b4 => (bif b4 then (some true) else (some (decide (a0 = 9)))).bind fun b5 => (bif b5 then (some true) else (some (decide (a0 = 10)))).bind fun b6 => some b6
theorem r15_Props_ok {N : Nat} {a0 : Int} {r : Bool} (h : r15_Props_O N a0 = some r) : Okc Tryz.prog 182 [iV a0] ([]) (fun (u : Value) (post : List Chunk) => u = .bool r ∧ post = []) := by
 refine ok_E Tryz.func182 rfl rfl ?_
 simp only [envOf]
 refine run ?_
 obtain ⟨b1, hb1, h⟩ := bind_elim h
 refine G_segb 3 8 b1 ?_ ?_
 ·clear h
  refine G_case 5 rfl (fun g1 => ?_) (fun g1 => ?_)
  ·have h := cond_t g1 hb1
   refine run ?_
   obtain rfl := Option.some.inj h
   exact G_joined sA (cv_sel [] 0 rfl rfl)
  ·have h := cond_f g1 hb1
   refine run ?_
   obtain rfl := Option.some.inj h
   exact G_joined sA (cv_sel [] 0 rfl rfl)
 refine run ?_
 obtain ⟨b2, hb2, h⟩ := bind_elim h
 refine G_segb 3 12 b2 ?_ ?_
 ·clear h
  refine G_case 9 rfl (fun g2 => ?_) (fun g2 => ?_)
  ·have h := cond_t g2 hb2
   refine run ?_
   obtain rfl := Option.some.inj h
   exact G_joined sA (cv_sel [] 0 rfl rfl)
  ·have h := cond_f g2 hb2
   refine run ?_
   obtain rfl := Option.some.inj h
   exact G_joined sA (cv_sel [] 0 rfl rfl)
 refine run ?_
 obtain ⟨b3, hb3, h⟩ := bind_elim h
 refine G_segb 3 16 b3 ?_ ?_
 ·clear h
  refine G_case 13 rfl (fun g3 => ?_) (fun g3 => ?_)
  ·have h := cond_t g3 hb3
   refine run ?_
   obtain rfl := Option.some.inj h
   exact G_joined sA (cv_sel [] 0 rfl rfl)
  ·have h := cond_f g3 hb3
   refine run ?_
   obtain rfl := Option.some.inj h
   exact G_joined sA (cv_sel [] 0 rfl rfl)
 refine run ?_
 obtain ⟨b4, hb4, h⟩ := bind_elim h
 refine G_segb 3 20 b4 ?_ ?_
 ·clear h
  refine G_case 17 rfl (fun g4 => ?_) (fun g4 => ?_)
  ·have h := cond_t g4 hb4
   refine run ?_
   obtain rfl := Option.some.inj h
   exact G_joined sA (cv_sel [] 0 rfl rfl)
  ·have h := cond_f g4 hb4
   refine run ?_
   obtain rfl := Option.some.inj h
   exact G_joined sA (cv_sel [] 0 rfl rfl)
 refine run ?_
 obtain ⟨b5, hb5, h⟩ := bind_elim h
 refine G_segb 3 24 b5 ?_ ?_
 ·clear h
  refine G_case 21 rfl (fun g5 => ?_) (fun g5 => ?_)
  ·have h := cond_t g5 hb5
   refine run ?_
   obtain rfl := Option.some.inj h
   exact G_joined sA (cv_sel [] 0 rfl rfl)
  ·have h := cond_f g5 hb5
   refine run ?_
   obtain rfl := Option.some.inj h
   exact G_joined sA (cv_sel [] 0 rfl rfl)
 refine run ?_
 obtain ⟨b6, hb6, h⟩ := bind_elim h
 refine G_segb 3 28 b6 ?_ ?_
 ·clear h
  refine G_case 25 rfl (fun g6 => ?_) (fun g6 => ?_)
  ·have h := cond_t g6 hb6
   refine run ?_
   obtain rfl := Option.some.inj h
   exact G_joined sA (cv_sel [] 0 rfl rfl)
  ·have h := cond_f g6 hb6
   refine run ?_
   obtain rfl := Option.some.inj h
   exact G_joined sA (cv_sel [] 0 rfl rfl)
 refine run ?_
 obtain rfl := Option.some.inj h
 exact endG1 rfl rfl (cv_sel [] 0 rfl rfl) ⟨rfl, rfl⟩
theorem r15_Props_free {r : Bool} : ∀ v post, ((fun (u : Value) (post : List Chunk) => u = .bool r ∧ post = [])) v post → ∀ c ∈ post, Free c := by
 rintro _ _ ⟨rfl, rfl⟩; exact mem_nil
def r15_none_O (N : Nat) (a0 : DValue) (a1 : Int) : Option Bool :=
 (bif decide (a0.Kind = 0) then (some true) else (some (decide (a0.Kind = a1)))).bind fun b2 => some b2
theorem r15_none_ok {N : Nat} {a0 : DValue} {a1 : Int} {r : Bool} (h : r15_none_O N a0 a1 = some r) : Okc Tryz.prog 183 [.agg #[iV a0.Kind, iV a0.N, .string a0.S], iV a1] ([]) (fun (u : Value) (post : List Chunk) => u = .bool r ∧ post = []) := by
 refine ok_E Tryz.func183 rfl rfl ?_
 simp only [envOf]
 refine run ?_
 refine gD (op_box rfl rfl) ?_
 rintro _ _ ⟨B1, rfl, rfl⟩
 refine run ?_
 obtain ⟨b2, hb2, h⟩ := bind_elim h
 refine G_segb 5 13 b2 ?_ ?_
 ·clear h
  refine G_case 8 rfl (fun g2 => ?_) (fun g2 => ?_)
  ·have h := cond_t g2 hb2
   refine run ?_
   obtain rfl := Option.some.inj h
   exact G_joined sA (cv_sel [0] 1 rfl rfl)
  ·have h := cond_f g2 hb2
   refine run ?_
   obtain rfl := Option.some.inj h
   exact G_joined sA (cv_sel [0] 1 rfl rfl)
 refine run ?_
 obtain rfl := Option.some.inj h
 exact endG1 rfl rfl (cv_sel [] 1 rfl rfl) ⟨rfl, rfl⟩
theorem r15_none_free {r : Bool} : ∀ v post, ((fun (u : Value) (post : List Chunk) => u = .bool r ∧ post = [])) v post → ∀ c ∈ post, Free c := by
 rintro _ _ ⟨rfl, rfl⟩; exact mem_nil
def r15_slots_O (N : Nat) (a0 : DCell) : Option Bool :=
 (r15_Props_O N a0.Kind).bind fun y4 => (bif y4 then (some true) else ((bif decide (a0.Kind = 7) then (some (decide (0 < (a0.Slots.length : Int)))) else (some false)).bind fun b6 => some b6)).bind fun b5 => bif b5 then ((bif decide (1 ≤ (a0.Slots.length : Int)) then (some (decide ((a0.Slots.length : Int) ≤ 1025))) else (some false)).bind fun b8 => (bif b8 then ((getE a0.Slots 0).bind fun x10 => (bif decide (x10.Kind = 1) then (some true) else ((getE a0.Slots 0).bind fun x12 => some (decide (x12.Kind = 7)))).bind fun b11 => some b11) else (some false)).bind fun b9 => some b9) else (bif decide (a0.Kind = 7) then (some (decide (a0.Shape = 0))) else ((bif !decide (a0.Shape = 0) then (some true) else (some (!decide (a0.Flags = 0)))).bind fun b14 => bif b14 then (some false) else (bif decide (a0.Kind = 5) then ((bif decide ((a0.Slots.length : Int) = 2) then ((getE a0.Slots 0).bind fun x18 => (r15_none_O N x18 7).bind fun y19 => some y19) else (some false)).bind fun b17 => (bif b17 then ((getE a0.Slots 1).bind fun x21 => (r15_none_O N x21 7).bind fun y22 => some y22) else (some false)).bind fun b20 => some b20) else (some (decide ((a0.Slots.length : Int) = 0))))))
theorem r15_slots_ok {N : Nat} {a0 : DCell} {r : Bool} (h : r15_slots_O N a0 = some r) {A1 : Option Addr} {n1 c1 : Nat} {A2 : Option Addr} {n2 c2 : Nat} : Okc Tryz.prog 145 [.agg #[iV a0.Kind, iV a0.Shape, iV a0.Flags, iV a0.Age, .slice A1 n1 c1, .slice A2 n2 c2]] ([kS0 A1 n1 c1 a0.Slots, kS0 A2 n2 c2 a0.More]) (fun (u : Value) (post : List Chunk) => u = .bool r ∧ post = []) := by
 refine ok_E Tryz.func145 rfl rfl ?_
 simp only [envOf]
 refine run ?_
 refine gD (op_box rfl rfl) ?_
 rintro _ _ ⟨B3, rfl, rfl⟩
 refine run ?_
 refine G_seq ?_
 refine run ?_
 obtain ⟨y4, hy4, h⟩ := bind_elim h
 refine gD (op_callR (r15_Props_ok hy4) call182 rfl (mem_nil) r15_Props_free) ?_
 rintro _ _ ⟨_, ⟨rfl, rfl⟩, rfl⟩
 refine run ?_
 obtain ⟨b5, hb5, h⟩ := bind_elim h
 refine G_segb 10 16 b5 ?_ ?_
 ·clear h
  refine G_case 6 rfl (fun g5 => ?_) (fun g5 => ?_)
  ·have h := cond_t g5 hb5
   refine run ?_
   obtain rfl := Option.some.inj h
   exact G_joined sA (cv_sel [0, 1, 2] 3 rfl rfl)
  ·have h := cond_f g5 hb5
   refine run ?_
   obtain ⟨b6, hb6, h⟩ := bind_elim h
   refine G_segb 5 15 b6 ?_ ?_
   ·clear h
    refine G_case 10 rfl (fun g6 => ?_) (fun g6 => ?_)
    ·have h := cond_t g6 hb6
     refine run ?_
     refine G_rd (rd_len 1 rfl els_sl rfl Tryz.underlying25) rfl (g_tt g6 rfl) rfl ?_
     refine run ?_
     obtain rfl := Option.some.inj h
     exact G_joined sA (cv_sel [0, 1, 2] 3 rfl rfl)
    ·have h := cond_f g6 hb6
     refine run ?_
     obtain rfl := Option.some.inj h
     exact G_joined sA (cv_sel [0, 1, 2] 3 rfl rfl)
   refine run ?_
   obtain rfl := Option.some.inj h
   exact G_joined sA (cv_sel [0, 1, 2] 3 rfl rfl)
 refine run ?_
 refine G_cond rfl (fun g7 => ?_) (fun g7 => ?_)
 ·replace h := cond_t g7 h
  refine run ?_
  refine gR (rd_len 1 rfl els_sl rfl Tryz.underlying25) ?_
  refine run ?_
  obtain ⟨b8, hb8, h⟩ := bind_elim h
  refine G_segb 5 26 b8 ?_ ?_
  ·clear h
   refine G_case 21 rfl (fun g8 => ?_) (fun g8 => ?_)
   ·have h := cond_t g8 hb8
    refine run ?_
    refine G_rd (rd_len 1 rfl els_sl rfl Tryz.underlying25) rfl (g_tt g8 rfl) rfl ?_
    refine run ?_
    obtain rfl := Option.some.inj h
    exact G_joined sA (cv_sel [0, 1, 2] 3 rfl rfl)
   ·have h := cond_f g8 hb8
    refine run ?_
    obtain rfl := Option.some.inj h
    exact G_joined sA (cv_sel [0, 1, 2] 3 rfl rfl)
  refine run ?_
  obtain ⟨b9, hb9, h⟩ := bind_elim h
  refine G_segb 15 42 b9 ?_ ?_
  ·clear h
   refine G_case 27 rfl (fun g9 => ?_) (fun g9 => ?_)
   ·have h := cond_t g9 hb9
    refine run ?_
    obtain ⟨x10, hx10, h⟩ := bind_elim h
    obtain ⟨lx10, ux10, hx10⟩ := getE_elim hx10
    refine G_rd (rd_idx 1 rfl els_sl rfl rfl Tryz.underlying25 size38 lx10 ux10) rfl (g_tt g9 rfl) rfl ?_
    refine G_rd (rd_fa0 1 rfl els_sl rfl (toNat_lt lx10 ux10) fa_38_0) rfl (g_tt g9 rfl) rfl ?_
    refine G_rd (rd_elem1 (u := iV x10.Kind) 1 rfl els_sl rfl hx10 one3 (fun _ _ _ h => by rw [show _ = _ from h]; rfl)) rfl (g_tt g9 rfl) rfl ?_
    refine run ?_
    obtain ⟨b11, hb11, h⟩ := bind_elim h
    refine G_segb 7 41 b11 ?_ ?_
    ·clear h
     refine G_case 34 rfl (fun g11 => ?_) (fun g11 => ?_)
     ·have h := cond_t g11 hb11
      refine run ?_
      obtain rfl := Option.some.inj h
      exact G_joined sA (cv_sel [0, 1, 2] 3 rfl rfl)
     ·have h := cond_f g11 hb11
      refine run ?_
      obtain ⟨x12, hx12, h⟩ := bind_elim h
      obtain ⟨lx12, ux12, hx12⟩ := getE_elim hx12
      refine G_rd (rd_idx 1 rfl els_sl rfl rfl Tryz.underlying25 size38 lx12 ux12) rfl (g_ff g11 rfl) rfl ?_
      refine G_rd (rd_fa0 1 rfl els_sl rfl (toNat_lt lx12 ux12) fa_38_0) rfl (g_ff g11 rfl) rfl ?_
      refine G_rd (rd_elem1 (u := iV x12.Kind) 1 rfl els_sl rfl hx12 one3 (fun _ _ _ h => by rw [show _ = _ from h]; rfl)) rfl (g_ff g11 rfl) rfl ?_
      refine run ?_
      obtain rfl := Option.some.inj h
      exact G_joined sA (cv_sel [0, 1, 2] 3 rfl rfl)
    refine run ?_
    obtain rfl := Option.some.inj h
    exact G_joined sA (cv_sel [0, 1, 2] 3 rfl rfl)
   ·have h := cond_f g9 hb9
    refine run ?_
    obtain rfl := Option.some.inj h
    exact G_joined sA (cv_sel [0, 1, 2] 3 rfl rfl)
  refine run ?_
  obtain rfl := Option.some.inj h
  exact endG1 rfl rfl (cv_sel [] 3 rfl rfl) ⟨rfl, rfl⟩
 ·replace h := cond_f g7 h
  refine run ?_
  refine G_seq ?_
  refine run ?_
  refine G_cond rfl (fun g13 => ?_) (fun g13 => ?_)
  ·replace h := cond_t g13 h
   refine run ?_
   obtain rfl := Option.some.inj h
   exact endG1 rfl rfl (cv_sel [] 3 rfl rfl) ⟨rfl, rfl⟩
  ·replace h := cond_f g13 h
   refine run ?_
   refine G_seq ?_
   refine run ?_
   obtain ⟨b14, hb14, h⟩ := bind_elim h
   refine G_segb 4 56 b14 ?_ ?_
   ·clear h
    refine G_case 52 rfl (fun g14 => ?_) (fun g14 => ?_)
    ·have h := cond_t g14 hb14
     refine run ?_
     obtain rfl := Option.some.inj h
     exact G_joined sA (cv_sel [0, 1, 2] 3 rfl rfl)
    ·have h := cond_f g14 hb14
     refine run ?_
     obtain rfl := Option.some.inj h
     exact G_joined sA (cv_sel [0, 1, 2] 3 rfl rfl)
   refine run ?_
   refine G_cond rfl (fun g15 => ?_) (fun g15 => ?_)
   ·replace h := cond_t g15 h
    refine run ?_
    obtain rfl := Option.some.inj h
    exact endG1 rfl rfl (cv_sel [] 3 rfl rfl) ⟨rfl, rfl⟩
   ·replace h := cond_f g15 h
    refine run ?_
    refine G_seq ?_
    refine run ?_
    refine G_cond rfl (fun g16 => ?_) (fun g16 => ?_)
    ·replace h := cond_t g16 h
     refine run ?_
     refine gR (rd_len 1 rfl els_sl rfl Tryz.underlying25) ?_
     refine run ?_
     obtain ⟨b17, hb17, h⟩ := bind_elim h
     refine G_segb 6 70 b17 ?_ ?_
     ·clear h
      refine G_case 64 rfl (fun g17 => ?_) (fun g17 => ?_)
      ·have h := cond_t g17 hb17
       refine run ?_
       obtain ⟨x18, hx18, h⟩ := bind_elim h
       obtain ⟨lx18, ux18, hx18⟩ := getE_elim hx18
       refine G_rd (rd_idx 1 rfl els_sl rfl rfl Tryz.underlying25 size38 lx18 ux18) rfl (g_tt g17 rfl) rfl ?_
       refine G_rd (rd_elemS (us := [iV x18.Kind, iV x18.N, .string x18.S]) 1 rfl els_sl rfl hx18 agg38 (fun _ _ _ h => by rw [show _ = _ from h]; rfl)) rfl (g_tt g17 rfl) rfl ?_
       obtain ⟨y19, hy19, h⟩ := bind_elim h
       refine G_opd (op_callR (r15_none_ok hy19) call183 rfl (mem_nil) r15_none_free) rfl (g_tt g17 rfl) rfl ?_
       rintro _ _ ⟨_, ⟨rfl, rfl⟩, rfl⟩
       refine run ?_
       obtain rfl := Option.some.inj h
       exact G_joined sA (cv_sel [0, 1, 2] 3 rfl rfl)
      ·have h := cond_f g17 hb17
       refine run ?_
       obtain rfl := Option.some.inj h
       exact G_joined sA (cv_sel [0, 1, 2] 3 rfl rfl)
     refine run ?_
     obtain ⟨b20, hb20, h⟩ := bind_elim h
     refine G_segb 6 77 b20 ?_ ?_
     ·clear h
      refine G_case 71 rfl (fun g20 => ?_) (fun g20 => ?_)
      ·have h := cond_t g20 hb20
       refine run ?_
       obtain ⟨x21, hx21, h⟩ := bind_elim h
       obtain ⟨lx21, ux21, hx21⟩ := getE_elim hx21
       refine G_rd (rd_idx 1 rfl els_sl rfl rfl Tryz.underlying25 size38 lx21 ux21) rfl (g_tt g20 rfl) rfl ?_
       refine G_rd (rd_elemS (us := [iV x21.Kind, iV x21.N, .string x21.S]) 1 rfl els_sl rfl hx21 agg38 (fun _ _ _ h => by rw [show _ = _ from h]; rfl)) rfl (g_tt g20 rfl) rfl ?_
       obtain ⟨y22, hy22, h⟩ := bind_elim h
       refine G_opd (op_callR (r15_none_ok hy22) call183 rfl (mem_nil) r15_none_free) rfl (g_tt g20 rfl) rfl ?_
       rintro _ _ ⟨_, ⟨rfl, rfl⟩, rfl⟩
       refine run ?_
       obtain rfl := Option.some.inj h
       exact G_joined sA (cv_sel [0, 1, 2] 3 rfl rfl)
      ·have h := cond_f g20 hb20
       refine run ?_
       obtain rfl := Option.some.inj h
       exact G_joined sA (cv_sel [0, 1, 2] 3 rfl rfl)
     refine run ?_
     obtain rfl := Option.some.inj h
     exact endG1 rfl rfl (cv_sel [] 3 rfl rfl) ⟨rfl, rfl⟩
    ·replace h := cond_f g16 h
     refine run ?_
     refine gR (rd_len 1 rfl els_sl rfl Tryz.underlying25) ?_
     refine run ?_
     obtain rfl := Option.some.inj h
     exact endG1 rfl rfl (cv_sel [] 3 rfl rfl) ⟨rfl, rfl⟩
theorem r15_slots_free {r : Bool} : ∀ v post, ((fun (u : Value) (post : List Chunk) => u = .bool r ∧ post = [])) v post → ∀ c ∈ post, Free c := by
 rintro _ _ ⟨rfl, rfl⟩; exact mem_nil
def r15_num_O (N : Nat) (a0 : DValue) (a1 : Int) (a2 : Int) : Option Bool :=
 (bif decide (a0.Kind = 3) then (some (decide (a1 ≤ a0.N))) else (some false)).bind fun b2 => (bif b2 then (some (decide (a0.N ≤ a2))) else (some false)).bind fun b3 => some b3
theorem r15_num_ok {N : Nat} {a0 : DValue} {a1 : Int} {a2 : Int} {r : Bool} (h : r15_num_O N a0 a1 a2 = some r) : Okc Tryz.prog 184 [.agg #[iV a0.Kind, iV a0.N, .string a0.S], iV a1, iV a2] ([]) (fun (u : Value) (post : List Chunk) => u = .bool r ∧ post = []) := by
 refine ok_E Tryz.func184 rfl rfl ?_
 simp only [envOf]
 refine run ?_
 refine gD (op_box rfl rfl) ?_
 rintro _ _ ⟨B1, rfl, rfl⟩
 refine run ?_
 obtain ⟨b2, hb2, h⟩ := bind_elim h
 refine G_segb 5 15 b2 ?_ ?_
 ·clear h
  refine G_case 10 rfl (fun g2 => ?_) (fun g2 => ?_)
  ·have h := cond_t g2 hb2
   refine run ?_
   obtain rfl := Option.some.inj h
   exact G_joined sA (cv_sel [0] 1 rfl rfl)
  ·have h := cond_f g2 hb2
   refine run ?_
   obtain rfl := Option.some.inj h
   exact G_joined sA (cv_sel [0] 1 rfl rfl)
 refine run ?_
 obtain ⟨b3, hb3, h⟩ := bind_elim h
 refine G_segb 5 21 b3 ?_ ?_
 ·clear h
  refine G_case 16 rfl (fun g3 => ?_) (fun g3 => ?_)
  ·have h := cond_t g3 hb3
   refine run ?_
   obtain rfl := Option.some.inj h
   exact G_joined sA (cv_sel [0] 1 rfl rfl)
  ·have h := cond_f g3 hb3
   refine run ?_
   obtain rfl := Option.some.inj h
   exact G_joined sA (cv_sel [0] 1 rfl rfl)
 refine run ?_
 obtain rfl := Option.some.inj h
 exact endG1 rfl rfl (cv_sel [] 1 rfl rfl) ⟨rfl, rfl⟩
theorem r15_num_free {r : Bool} : ∀ v post, ((fun (u : Value) (post : List Chunk) => u = .bool r ∧ post = [])) v post → ∀ c ∈ post, Free c := by
 rintro _ _ ⟨rfl, rfl⟩; exact mem_nil
def r15_entries_j4 (N : Nat) : Option Bool :=
 some true
def r15_entries_l5 (N : Nat) (a1 : Int) (a0 : (List DValue)) : Nat → Int → Option Bool
 | 0, _ => none
 | m5 + 1, p6 => bif decide (p6 < (a0.length : Int)) then ((getE a0 p6).bind fun x8 => (bif !decide (x8.Kind = 7) then (some true) else (req (in64 (p6 + 1)) ((getE a0 (p6 + 1)).bind fun x11 => some (decide (x11.Kind = 8))))).bind fun b9 => bif b9 then (some false) else ((bif decide (a1 = 4) then (req (in64 (p6 + 2)) ((getE a0 (p6 + 2)).bind fun x15 => (r15_none_O N x15 7).bind fun y16 => (bif !y16 then (some true) else (req (in64 (p6 + 3)) ((getE a0 (p6 + 3)).bind fun x19 => (r15_num_O N x19 0 9007199254740992).bind fun y20 => some (!y20)))).bind fun b17 => some b17)) else (some false)).bind fun b13 => bif b13 then (some false) else (req (in64 (p6 + a1)) ((r15_entries_l5 N a1 a0 m5) (p6 + a1))))) else (r15_entries_j4 N)
theorem r15_entries_l5_s {N m5 : Nat} {a1 : Int} {a0 : (List DValue)} {p6 : Int} : r15_entries_l5 N a1 a0 (m5 + 1) p6 = bif decide (p6 < (a0.length : Int)) then ((getE a0 p6).bind fun x8 => (bif !decide (x8.Kind = 7) then (some true) else (req (in64 (p6 + 1)) ((getE a0 (p6 + 1)).bind fun x11 => some (decide (x11.Kind = 8))))).bind fun b9 => bif b9 then (some false) else ((bif decide (a1 = 4) then (req (in64 (p6 + 2)) ((getE a0 (p6 + 2)).bind fun x15 => (r15_none_O N x15 7).bind fun y16 => (bif !y16 then (some true) else (req (in64 (p6 + 3)) ((getE a0 (p6 + 3)).bind fun x19 => (r15_num_O N x19 0 9007199254740992).bind fun y20 => some (!y20)))).bind fun b17 => some b17)) else (some false)).bind fun b13 => bif b13 then (some false) else (req (in64 (p6 + a1)) ((r15_entries_l5 N a1 a0 m5) (p6 + a1))))) else (r15_entries_j4 N) := rfl
def r15_entries_O (N : Nat) (a0 : (List DValue)) (a1 : Int) : Option Bool :=
 req (a1 ≠ 0) (bif !decide ((a0.length : Int).tmod a1 = 0) then (some false) else (r15_entries_l5 N a1 a0 N 0))
theorem r15_entries_ok {N : Nat} {a0 : (List DValue)} {a1 : Int} {r : Bool} (h : r15_entries_O N a0 a1 = some r) {A1 : Option Addr} {n1 c1 : Nat} : Okc Tryz.prog 185 [.slice A1 n1 c1, iV a1] ([kS0 A1 n1 c1 a0]) (fun (u : Value) (post : List Chunk) => u = .bool r ∧ post = []) := by
 refine ok_E Tryz.func185 rfl rfl ?_
 simp only [envOf]
 refine run ?_
 refine G_seq ?_
 refine run ?_
 refine gR (rd_len 0 rfl els_sl rfl Tryz.underlying25) ?_
 refine run ?_
 obtain ⟨q2, h⟩ := req_elim h
 refine gE (ev_rem rfl rfl q2) ?_
 refine run ?_
 refine G_cond rfl (fun g3 => ?_) (fun g3 => ?_)
 ·replace h := cond_t g3 h
  refine run ?_
  obtain rfl := Option.some.inj h
  exact endG1 rfl rfl (cv_sel [] 1 rfl rfl) ⟨rfl, rfl⟩
 ·replace h := cond_f g3 h
  refine run ?_
  refine G_joinF (fun s L => r15_entries_j4 N = some r ∧ s = [(4, .bool false)] ∧ L = []) ?_ ?_
  ·refine run ?_
   refine G_loopF (fun m s L => ∃ (p6 : Int), r15_entries_l5 N a1 a0 m p6 = some r ∧ s = [(0, .slice A1 n1 c1), (1, iV a1), (4, .bool false), (5, iV p6)] ∧ L = [kS0 A1 n1 c1 a0]) N _ _ ⟨0, h, rfl, rfl⟩ sA (cv_sel [0] 1 rfl rfl) ?_
   rintro (_ | m5) _ _ ⟨p6, h, rfl, rfl⟩
   ·exact none_some h
   rw [r15_entries_l5_s] at h
   refine G_seq ?_
   refine run ?_
   refine gR (rd_len 0 rfl els_sl rfl Tryz.underlying25) ?_
   refine run ?_
   refine G_cond rfl (fun g7 => ?_) (fun g7 => ?_)
   ·replace h := cond_t g7 h
    refine run ?_
    refine G_seq ?_
    refine G_block ?_
    refine G_seq ?_
    refine run ?_
    obtain ⟨x8, hx8, h⟩ := bind_elim h
    obtain ⟨lx8, ux8, hx8⟩ := getE_elim hx8
    refine gR (rd_idx 0 rfl els_sl rfl rfl Tryz.underlying25 size38 lx8 ux8) ?_
    refine gR (rd_fa0 0 rfl els_sl rfl (toNat_lt lx8 ux8) fa_38_0) ?_
    refine gR (rd_elem1 (u := iV x8.Kind) 0 rfl els_sl rfl hx8 one3 (fun _ _ _ h => by rw [show _ = _ from h]; rfl)) ?_
    refine run ?_
    obtain ⟨b9, hb9, h⟩ := bind_elim h
    refine G_segb 8 32 b9 ?_ ?_
    ·clear h
     refine G_case 24 rfl (fun g9 => ?_) (fun g9 => ?_)
     ·have h := cond_t g9 hb9
      refine run ?_
      obtain rfl := Option.some.inj h
      exact G_joined sA (cv_sel [0] 1 rfl rfl)
     ·have h := cond_f g9 hb9
      refine run ?_
      obtain ⟨q10, h⟩ := req_elim h
      refine G_ev (ev_add rfl rfl q10.1 q10.2) rfl (g_ff g9 rfl) rfl ?_
      obtain ⟨x11, hx11, h⟩ := bind_elim h
      obtain ⟨lx11, ux11, hx11⟩ := getE_elim hx11
      refine G_rd (rd_idx 0 rfl els_sl rfl rfl Tryz.underlying25 size38 lx11 ux11) rfl (g_ff g9 rfl) rfl ?_
      refine G_rd (rd_fa0 0 rfl els_sl rfl (toNat_lt lx11 ux11) fa_38_0) rfl (g_ff g9 rfl) rfl ?_
      refine G_rd (rd_elem1 (u := iV x11.Kind) 0 rfl els_sl rfl hx11 one3 (fun _ _ _ h => by rw [show _ = _ from h]; rfl)) rfl (g_ff g9 rfl) rfl ?_
      refine run ?_
      obtain rfl := Option.some.inj h
      exact G_joined sA (cv_sel [0] 1 rfl rfl)
    refine run ?_
    refine G_cond rfl (fun g12 => ?_) (fun g12 => ?_)
    ·replace h := cond_t g12 h
     refine run ?_
     obtain rfl := Option.some.inj h
     exact endG1 rfl rfl (cv_sel [] 1 rfl rfl) ⟨rfl, rfl⟩
    ·replace h := cond_f g12 h
     refine run ?_
     obtain ⟨b13, hb13, h⟩ := bind_elim h
     refine G_segb 17 52 b13 ?_ ?_
     ·clear h
      refine G_case 35 rfl (fun g13 => ?_) (fun g13 => ?_)
      ·have h := cond_t g13 hb13
       refine run ?_
       obtain ⟨q14, h⟩ := req_elim h
       refine G_ev (ev_add rfl rfl q14.1 q14.2) rfl (g_tt g13 rfl) rfl ?_
       obtain ⟨x15, hx15, h⟩ := bind_elim h
       obtain ⟨lx15, ux15, hx15⟩ := getE_elim hx15
       refine G_rd (rd_idx 0 rfl els_sl rfl rfl Tryz.underlying25 size38 lx15 ux15) rfl (g_tt g13 rfl) rfl ?_
       refine G_rd (rd_elemS (us := [iV x15.Kind, iV x15.N, .string x15.S]) 0 rfl els_sl rfl hx15 agg38 (fun _ _ _ h => by rw [show _ = _ from h]; rfl)) rfl (g_tt g13 rfl) rfl ?_
       obtain ⟨y16, hy16, h⟩ := bind_elim h
       refine G_opd (op_callR (r15_none_ok hy16) call183 rfl (mem_nil) r15_none_free) rfl (g_tt g13 rfl) rfl ?_
       rintro _ _ ⟨_, ⟨rfl, rfl⟩, rfl⟩
       refine run ?_
       obtain ⟨b17, hb17, h⟩ := bind_elim h
       refine G_segb 8 51 b17 ?_ ?_
       ·clear h
        refine G_case 43 rfl (fun g17 => ?_) (fun g17 => ?_)
        ·have h := cond_t g17 hb17
         refine run ?_
         obtain rfl := Option.some.inj h
         exact G_joined sA (cv_sel [0] 1 rfl rfl)
        ·have h := cond_f g17 hb17
         refine run ?_
         obtain ⟨q18, h⟩ := req_elim h
         refine G_ev (ev_add rfl rfl q18.1 q18.2) rfl (g_ff g17 rfl) rfl ?_
         obtain ⟨x19, hx19, h⟩ := bind_elim h
         obtain ⟨lx19, ux19, hx19⟩ := getE_elim hx19
         refine G_rd (rd_idx 0 rfl els_sl rfl rfl Tryz.underlying25 size38 lx19 ux19) rfl (g_ff g17 rfl) rfl ?_
         refine G_rd (rd_elemS (us := [iV x19.Kind, iV x19.N, .string x19.S]) 0 rfl els_sl rfl hx19 agg38 (fun _ _ _ h => by rw [show _ = _ from h]; rfl)) rfl (g_ff g17 rfl) rfl ?_
         obtain ⟨y20, hy20, h⟩ := bind_elim h
         refine G_opd (op_callR (r15_num_ok hy20) call184 rfl (mem_nil) r15_num_free) rfl (g_ff g17 rfl) rfl ?_
         rintro _ _ ⟨_, ⟨rfl, rfl⟩, rfl⟩
         refine run ?_
         obtain rfl := Option.some.inj h
         exact G_joined sA (cv_sel [0] 1 rfl rfl)
       refine run ?_
       obtain rfl := Option.some.inj h
       exact G_joined sA (cv_sel [0] 1 rfl rfl)
      ·have h := cond_f g13 hb13
       refine run ?_
       obtain rfl := Option.some.inj h
       exact G_joined sA (cv_sel [0] 1 rfl rfl)
     refine run ?_
     refine G_cond rfl (fun g21 => ?_) (fun g21 => ?_)
     ·replace h := cond_t g21 h
      refine run ?_
      obtain rfl := Option.some.inj h
      exact endG1 rfl rfl (cv_sel [] 1 rfl rfl) ⟨rfl, rfl⟩
     ·replace h := cond_f g21 h
      refine run ?_
      obtain ⟨q22, h⟩ := req_elim h
      refine gE (ev_add rfl rfl q22.1 q22.2) ?_
      refine run ?_
      exact ⟨m5, _, _, Nat.lt_succ_self _, ⟨p6 + a1, h, rfl, rfl⟩, sA, cv_sel [0] 1 rfl rfl⟩
   ·replace h := cond_f g7 h
    refine run ?_
    exact ⟨_, _, ⟨h, rfl, rfl⟩, sA, cv_sel [] 1 rfl rfl⟩
  ·rintro _ _ ⟨h, rfl, rfl⟩
   refine run ?_
   obtain rfl := Option.some.inj h
   exact endG1 rfl rfl (cv_sel [] 0 rfl rfl) ⟨rfl, rfl⟩
theorem r15_entries_free {r : Bool} : ∀ v post, ((fun (u : Value) (post : List Chunk) => u = .bool r ∧ post = [])) v post → ∀ c ∈ post, Free c := by
 rintro _ _ ⟨rfl, rfl⟩; exact mem_nil
def r15_more_j6 (N : Nat) (a0 : DCell) (p7 : Bool) : Option Bool :=
 bif p7 then (some (decide ((a0.More.length : Int) = 0))) else (bif decide (a0.Kind = 3) then ((bif decide ((a0.More.length : Int) = 3) then ((getE a0.More 0).bind fun x12 => (r15_num_O N x12 0 9007199254740992).bind fun y13 => some y13) else (some false)).bind fun b11 => (bif b11 then ((getE a0.More 1).bind fun x15 => (r15_none_O N x15 9).bind fun y16 => some y16) else (some false)).bind fun b14 => some b14) else (bif decide (a0.Kind = 4) then ((bif decide (1 ≤ (a0.More.length : Int)) then (some (decide ((a0.More.length : Int) ≤ 4097))) else (some false)).bind fun b18 => (bif b18 then ((getE a0.More 0).bind fun x20 => (r15_none_O N x20 9).bind fun y21 => some y21) else (some false)).bind fun b19 => some b19) else (bif decide (a0.Kind = 6) then ((bif decide ((a0.More.length : Int) = 2) then ((getE a0.More 0).bind fun x24 => (r15_num_O N x24 0 3).bind fun y25 => some y25) else (some false)).bind fun b23 => (bif b23 then ((getE a0.More 1).bind fun x27 => (r15_none_O N x27 9).bind fun y28 => some y28) else (some false)).bind fun b26 => some b26) else (bif decide (a0.Kind = 7) then ((bif decide (4 ≤ (a0.More.length : Int)) then ((getE a0.More 2).bind fun x31 => (r15_num_O N x31 0 1).bind fun y32 => some y32) else (some false)).bind fun b30 => (bif b30 then ((getE a0.More 3).bind fun x34 => (r15_num_O N x34 0 9007199254740992).bind fun y35 => some y35) else (some false)).bind fun b33 => some b33) else (bif decide (a0.Kind = 8) then ((r15_entries_O N a0.More 2).bind fun y37 => some y37) else (bif decide (a0.Kind = 10) then ((bif decide (1 ≤ (a0.More.length : Int)) then ((getE a0.More 0).bind fun x40 => some (decide (x40.Kind = 7))) else (some false)).bind fun b39 => (bif b39 then (req ((0 : Int) ≤ 1 ∧ (1 : Int).toNat ≤ a0.More.length ∧ a0.More.length ≤ a0.More.length) ((r15_entries_O N ((a0.More.drop ((1 : Int).toNat)).take (a0.More.length - (1 : Int).toNat)) 4).bind fun y44 => some y44)) else (some false)).bind fun b41 => some b41) else (bif decide (a0.Kind = 9) then ((bif decide (2 ≤ (a0.More.length : Int)) then ((getE a0.More 0).bind fun x47 => (r15_num_O N x47 0 2).bind fun y48 => some y48) else (some false)).bind fun b46 => some b46) else (some true))))))))
def r15_more_O (N : Nat) (a0 : DCell) : Option Bool :=
 bif decide (1048576 < (a0.More.length : Int)) then (some false) else (bif decide (a0.Kind = 2) then (some (decide ((a0.More.length : Int) ≤ 4096))) else (bif decide (a0.Kind = 1) then (r15_more_j6 N a0 (decide (a0.Kind = 1))) else (r15_more_j6 N a0 (decide (a0.Kind = 5)))))
set_option maxHeartbeats 4000000 in
theorem r15_more_ok {N : Nat} {a0 : DCell} {r : Bool} (h : r15_more_O N a0 = some r) {A1 : Option Addr} {n1 c1 : Nat} {A2 : Option Addr} {n2 c2 : Nat} : Okc Tryz.prog 146 [.agg #[iV a0.Kind, iV a0.Shape, iV a0.Flags, iV a0.Age, .slice A1 n1 c1, .slice A2 n2 c2]] ([kS0 A1 n1 c1 a0.Slots, kS0 A2 n2 c2 a0.More]) (fun (u : Value) (post : List Chunk) => u = .bool r ∧ post = []) := by
 refine ok_E Tryz.func146 rfl rfl ?_
 simp only [envOf]
 refine run ?_
 refine gD (op_box rfl rfl) ?_
 rintro _ _ ⟨B3, rfl, rfl⟩
 refine run ?_
 refine G_seq ?_
 refine run ?_
 refine gR (rd_len 2 rfl els_sl rfl Tryz.underlying25) ?_
 refine run ?_
 refine G_cond rfl (fun g4 => ?_) (fun g4 => ?_)
 ·replace h := cond_t g4 h
  refine run ?_
  obtain rfl := Option.some.inj h
  exact endG1 rfl rfl (cv_sel [] 3 rfl rfl) ⟨rfl, rfl⟩
 ·replace h := cond_f g4 h
  refine run ?_
  refine G_seq ?_
  refine run ?_
  refine G_cond rfl (fun g5 => ?_) (fun g5 => ?_)
  ·replace h := cond_t g5 h
   refine run ?_
   refine gR (rd_len 2 rfl els_sl rfl Tryz.underlying25) ?_
   refine run ?_
   obtain rfl := Option.some.inj h
   exact endG1 rfl rfl (cv_sel [] 3 rfl rfl) ⟨rfl, rfl⟩
  ·replace h := cond_f g5 h
   refine G_joinF (fun s L => ∃ (p7 : Bool), r15_more_j6 N a0 p7 = some r ∧ s = [(2, .bool false), (3, .slice A2 n2 c2), (10, iV a0.Kind), (16, .bool p7)] ∧ L = [kS0 A2 n2 c2 a0.More]) ?_ ?_
   ·refine run ?_
    refine G_cond rfl (fun g8 => ?_) (fun g8 => ?_)
    ·replace h := cond_t g8 h
     refine run ?_
     exact ⟨_, _, ⟨decide (a0.Kind = 1), h, rfl, rfl⟩, sA, cv_sel [2] 3 rfl rfl⟩
    ·replace h := cond_f g8 h
     refine run ?_
     exact ⟨_, _, ⟨decide (a0.Kind = 5), h, rfl, rfl⟩, sA, cv_sel [2] 3 rfl rfl⟩
   ·rintro _ _ ⟨p7, h, rfl, rfl⟩
    refine G_cond rfl (fun g9 => ?_) (fun g9 => ?_)
    ·replace h := cond_t g9 h
     refine run ?_
     refine gR (rd_len 0 rfl els_sl rfl Tryz.underlying25) ?_
     refine run ?_
     obtain rfl := Option.some.inj h
     exact endG1 rfl rfl (cv_sel [] 1 rfl rfl) ⟨rfl, rfl⟩
    ·replace h := cond_f g9 h
     refine run ?_
     refine G_cond rfl (fun g10 => ?_) (fun g10 => ?_)
     ·replace h := cond_t g10 h
      refine run ?_
      refine gR (rd_len 0 rfl els_sl rfl Tryz.underlying25) ?_
      refine run ?_
      obtain ⟨b11, hb11, h⟩ := bind_elim h
      refine G_segb 5 32 b11 ?_ ?_
      ·clear h
       refine G_case 27 rfl (fun g11 => ?_) (fun g11 => ?_)
       ·have h := cond_t g11 hb11
        refine run ?_
        obtain ⟨x12, hx12, h⟩ := bind_elim h
        obtain ⟨lx12, ux12, hx12⟩ := getE_elim hx12
        refine G_rd (rd_idx 0 rfl els_sl rfl rfl Tryz.underlying25 size38 lx12 ux12) rfl (g_tt g11 rfl) rfl ?_
        refine G_rd (rd_elemS (us := [iV x12.Kind, iV x12.N, .string x12.S]) 0 rfl els_sl rfl hx12 agg38 (fun _ _ _ h => by rw [show _ = _ from h]; rfl)) rfl (g_tt g11 rfl) rfl ?_
        obtain ⟨y13, hy13, h⟩ := bind_elim h
        refine G_opd (op_callR (r15_num_ok hy13) call184 rfl (mem_nil) r15_num_free) rfl (g_tt g11 rfl) rfl ?_
        rintro _ _ ⟨_, ⟨rfl, rfl⟩, rfl⟩
        refine run ?_
        obtain rfl := Option.some.inj h
        exact G_joined sA (cv_sel [0] 1 rfl rfl)
       ·have h := cond_f g11 hb11
        refine run ?_
        obtain rfl := Option.some.inj h
        exact G_joined sA (cv_sel [0] 1 rfl rfl)
      refine run ?_
      obtain ⟨b14, hb14, h⟩ := bind_elim h
      refine G_segb 5 38 b14 ?_ ?_
      ·clear h
       refine G_case 33 rfl (fun g14 => ?_) (fun g14 => ?_)
       ·have h := cond_t g14 hb14
        refine run ?_
        obtain ⟨x15, hx15, h⟩ := bind_elim h
        obtain ⟨lx15, ux15, hx15⟩ := getE_elim hx15
        refine G_rd (rd_idx 0 rfl els_sl rfl rfl Tryz.underlying25 size38 lx15 ux15) rfl (g_tt g14 rfl) rfl ?_
        refine G_rd (rd_elemS (us := [iV x15.Kind, iV x15.N, .string x15.S]) 0 rfl els_sl rfl hx15 agg38 (fun _ _ _ h => by rw [show _ = _ from h]; rfl)) rfl (g_tt g14 rfl) rfl ?_
        obtain ⟨y16, hy16, h⟩ := bind_elim h
        refine G_opd (op_callR (r15_none_ok hy16) call183 rfl (mem_nil) r15_none_free) rfl (g_tt g14 rfl) rfl ?_
        rintro _ _ ⟨_, ⟨rfl, rfl⟩, rfl⟩
        refine run ?_
        obtain rfl := Option.some.inj h
        exact G_joined sA (cv_sel [0] 1 rfl rfl)
       ·have h := cond_f g14 hb14
        refine run ?_
        obtain rfl := Option.some.inj h
        exact G_joined sA (cv_sel [0] 1 rfl rfl)
      refine run ?_
      obtain rfl := Option.some.inj h
      exact endG1 rfl rfl (cv_sel [] 1 rfl rfl) ⟨rfl, rfl⟩
     ·replace h := cond_f g10 h
      refine run ?_
      refine G_cond rfl (fun g17 => ?_) (fun g17 => ?_)
      ·replace h := cond_t g17 h
       refine run ?_
       refine gR (rd_len 0 rfl els_sl rfl Tryz.underlying25) ?_
       refine run ?_
       obtain ⟨b18, hb18, h⟩ := bind_elim h
       refine G_segb 4 48 b18 ?_ ?_
       ·clear h
        refine G_case 44 rfl (fun g18 => ?_) (fun g18 => ?_)
        ·have h := cond_t g18 hb18
         refine run ?_
         refine G_rd (rd_len 0 rfl els_sl rfl Tryz.underlying25) rfl (g_tt g18 rfl) rfl ?_
         refine run ?_
         obtain rfl := Option.some.inj h
         exact G_joined sA (cv_sel [0] 1 rfl rfl)
        ·have h := cond_f g18 hb18
         refine run ?_
         obtain rfl := Option.some.inj h
         exact G_joined sA (cv_sel [0] 1 rfl rfl)
       refine run ?_
       obtain ⟨b19, hb19, h⟩ := bind_elim h
       refine G_segb 5 54 b19 ?_ ?_
       ·clear h
        refine G_case 49 rfl (fun g19 => ?_) (fun g19 => ?_)
        ·have h := cond_t g19 hb19
         refine run ?_
         obtain ⟨x20, hx20, h⟩ := bind_elim h
         obtain ⟨lx20, ux20, hx20⟩ := getE_elim hx20
         refine G_rd (rd_idx 0 rfl els_sl rfl rfl Tryz.underlying25 size38 lx20 ux20) rfl (g_tt g19 rfl) rfl ?_
         refine G_rd (rd_elemS (us := [iV x20.Kind, iV x20.N, .string x20.S]) 0 rfl els_sl rfl hx20 agg38 (fun _ _ _ h => by rw [show _ = _ from h]; rfl)) rfl (g_tt g19 rfl) rfl ?_
         obtain ⟨y21, hy21, h⟩ := bind_elim h
         refine G_opd (op_callR (r15_none_ok hy21) call183 rfl (mem_nil) r15_none_free) rfl (g_tt g19 rfl) rfl ?_
         rintro _ _ ⟨_, ⟨rfl, rfl⟩, rfl⟩
         refine run ?_
         obtain rfl := Option.some.inj h
         exact G_joined sA (cv_sel [0] 1 rfl rfl)
        ·have h := cond_f g19 hb19
         refine run ?_
         obtain rfl := Option.some.inj h
         exact G_joined sA (cv_sel [0] 1 rfl rfl)
       refine run ?_
       obtain rfl := Option.some.inj h
       exact endG1 rfl rfl (cv_sel [] 1 rfl rfl) ⟨rfl, rfl⟩
      ·replace h := cond_f g17 h
       refine run ?_
       refine G_cond rfl (fun g22 => ?_) (fun g22 => ?_)
       ·replace h := cond_t g22 h
        refine run ?_
        refine gR (rd_len 0 rfl els_sl rfl Tryz.underlying25) ?_
        refine run ?_
        obtain ⟨b23, hb23, h⟩ := bind_elim h
        refine G_segb 5 65 b23 ?_ ?_
        ·clear h
         refine G_case 60 rfl (fun g23 => ?_) (fun g23 => ?_)
         ·have h := cond_t g23 hb23
          refine run ?_
          obtain ⟨x24, hx24, h⟩ := bind_elim h
          obtain ⟨lx24, ux24, hx24⟩ := getE_elim hx24
          refine G_rd (rd_idx 0 rfl els_sl rfl rfl Tryz.underlying25 size38 lx24 ux24) rfl (g_tt g23 rfl) rfl ?_
          refine G_rd (rd_elemS (us := [iV x24.Kind, iV x24.N, .string x24.S]) 0 rfl els_sl rfl hx24 agg38 (fun _ _ _ h => by rw [show _ = _ from h]; rfl)) rfl (g_tt g23 rfl) rfl ?_
          obtain ⟨y25, hy25, h⟩ := bind_elim h
          refine G_opd (op_callR (r15_num_ok hy25) call184 rfl (mem_nil) r15_num_free) rfl (g_tt g23 rfl) rfl ?_
          rintro _ _ ⟨_, ⟨rfl, rfl⟩, rfl⟩
          refine run ?_
          obtain rfl := Option.some.inj h
          exact G_joined sA (cv_sel [0] 1 rfl rfl)
         ·have h := cond_f g23 hb23
          refine run ?_
          obtain rfl := Option.some.inj h
          exact G_joined sA (cv_sel [0] 1 rfl rfl)
        refine run ?_
        obtain ⟨b26, hb26, h⟩ := bind_elim h
        refine G_segb 5 71 b26 ?_ ?_
        ·clear h
         refine G_case 66 rfl (fun g26 => ?_) (fun g26 => ?_)
         ·have h := cond_t g26 hb26
          refine run ?_
          obtain ⟨x27, hx27, h⟩ := bind_elim h
          obtain ⟨lx27, ux27, hx27⟩ := getE_elim hx27
          refine G_rd (rd_idx 0 rfl els_sl rfl rfl Tryz.underlying25 size38 lx27 ux27) rfl (g_tt g26 rfl) rfl ?_
          refine G_rd (rd_elemS (us := [iV x27.Kind, iV x27.N, .string x27.S]) 0 rfl els_sl rfl hx27 agg38 (fun _ _ _ h => by rw [show _ = _ from h]; rfl)) rfl (g_tt g26 rfl) rfl ?_
          obtain ⟨y28, hy28, h⟩ := bind_elim h
          refine G_opd (op_callR (r15_none_ok hy28) call183 rfl (mem_nil) r15_none_free) rfl (g_tt g26 rfl) rfl ?_
          rintro _ _ ⟨_, ⟨rfl, rfl⟩, rfl⟩
          refine run ?_
          obtain rfl := Option.some.inj h
          exact G_joined sA (cv_sel [0] 1 rfl rfl)
         ·have h := cond_f g26 hb26
          refine run ?_
          obtain rfl := Option.some.inj h
          exact G_joined sA (cv_sel [0] 1 rfl rfl)
        refine run ?_
        obtain rfl := Option.some.inj h
        exact endG1 rfl rfl (cv_sel [] 1 rfl rfl) ⟨rfl, rfl⟩
       ·replace h := cond_f g22 h
        refine run ?_
        refine G_cond rfl (fun g29 => ?_) (fun g29 => ?_)
        ·replace h := cond_t g29 h
         refine run ?_
         refine gR (rd_len 0 rfl els_sl rfl Tryz.underlying25) ?_
         refine run ?_
         obtain ⟨b30, hb30, h⟩ := bind_elim h
         refine G_segb 5 82 b30 ?_ ?_
         ·clear h
          refine G_case 77 rfl (fun g30 => ?_) (fun g30 => ?_)
          ·have h := cond_t g30 hb30
           refine run ?_
           obtain ⟨x31, hx31, h⟩ := bind_elim h
           obtain ⟨lx31, ux31, hx31⟩ := getE_elim hx31
           refine G_rd (rd_idx 0 rfl els_sl rfl rfl Tryz.underlying25 size38 lx31 ux31) rfl (g_tt g30 rfl) rfl ?_
           refine G_rd (rd_elemS (us := [iV x31.Kind, iV x31.N, .string x31.S]) 0 rfl els_sl rfl hx31 agg38 (fun _ _ _ h => by rw [show _ = _ from h]; rfl)) rfl (g_tt g30 rfl) rfl ?_
           obtain ⟨y32, hy32, h⟩ := bind_elim h
           refine G_opd (op_callR (r15_num_ok hy32) call184 rfl (mem_nil) r15_num_free) rfl (g_tt g30 rfl) rfl ?_
           rintro _ _ ⟨_, ⟨rfl, rfl⟩, rfl⟩
           refine run ?_
           obtain rfl := Option.some.inj h
           exact G_joined sA (cv_sel [0] 1 rfl rfl)
          ·have h := cond_f g30 hb30
           refine run ?_
           obtain rfl := Option.some.inj h
           exact G_joined sA (cv_sel [0] 1 rfl rfl)
         refine run ?_
         obtain ⟨b33, hb33, h⟩ := bind_elim h
         refine G_segb 5 88 b33 ?_ ?_
         ·clear h
          refine G_case 83 rfl (fun g33 => ?_) (fun g33 => ?_)
          ·have h := cond_t g33 hb33
           refine run ?_
           obtain ⟨x34, hx34, h⟩ := bind_elim h
           obtain ⟨lx34, ux34, hx34⟩ := getE_elim hx34
           refine G_rd (rd_idx 0 rfl els_sl rfl rfl Tryz.underlying25 size38 lx34 ux34) rfl (g_tt g33 rfl) rfl ?_
           refine G_rd (rd_elemS (us := [iV x34.Kind, iV x34.N, .string x34.S]) 0 rfl els_sl rfl hx34 agg38 (fun _ _ _ h => by rw [show _ = _ from h]; rfl)) rfl (g_tt g33 rfl) rfl ?_
           obtain ⟨y35, hy35, h⟩ := bind_elim h
           refine G_opd (op_callR (r15_num_ok hy35) call184 rfl (mem_nil) r15_num_free) rfl (g_tt g33 rfl) rfl ?_
           rintro _ _ ⟨_, ⟨rfl, rfl⟩, rfl⟩
           refine run ?_
           obtain rfl := Option.some.inj h
           exact G_joined sA (cv_sel [0] 1 rfl rfl)
          ·have h := cond_f g33 hb33
           refine run ?_
           obtain rfl := Option.some.inj h
           exact G_joined sA (cv_sel [0] 1 rfl rfl)
         refine run ?_
         obtain rfl := Option.some.inj h
         exact endG1 rfl rfl (cv_sel [] 1 rfl rfl) ⟨rfl, rfl⟩
        ·replace h := cond_f g29 h
         refine run ?_
         refine G_cond rfl (fun g36 => ?_) (fun g36 => ?_)
         ·replace h := cond_t g36 h
          refine run ?_
          obtain ⟨y37, hy37, h⟩ := bind_elim h
          refine gD (op_callR (r15_entries_ok hy37) call185 rfl (mem_cons (lent_ro (i := 0) rfl rfl) mem_nil) r15_entries_free) ?_
          rintro _ _ ⟨_, ⟨rfl, rfl⟩, rfl⟩
          refine run ?_
          obtain rfl := Option.some.inj h
          exact endG1 rfl rfl (cv_sel [] 1 rfl rfl) ⟨rfl, rfl⟩
         ·replace h := cond_f g36 h
          refine run ?_
          refine G_cond rfl (fun g38 => ?_) (fun g38 => ?_)
          ·replace h := cond_t g38 h
           refine run ?_
           refine gR (rd_len 0 rfl els_sl rfl Tryz.underlying25) ?_
           refine run ?_
           obtain ⟨b39, hb39, h⟩ := bind_elim h
           refine G_segb 6 104 b39 ?_ ?_
           ·clear h
            refine G_case 98 rfl (fun g39 => ?_) (fun g39 => ?_)
            ·have h := cond_t g39 hb39
             refine run ?_
             obtain ⟨x40, hx40, h⟩ := bind_elim h
             obtain ⟨lx40, ux40, hx40⟩ := getE_elim hx40
             refine G_rd (rd_idx 0 rfl els_sl rfl rfl Tryz.underlying25 size38 lx40 ux40) rfl (g_tt g39 rfl) rfl ?_
             refine G_rd (rd_fa0 0 rfl els_sl rfl (toNat_lt lx40 ux40) fa_38_0) rfl (g_tt g39 rfl) rfl ?_
             refine G_rd (rd_elem1 (u := iV x40.Kind) 0 rfl els_sl rfl hx40 one3 (fun _ _ _ h => by rw [show _ = _ from h]; rfl)) rfl (g_tt g39 rfl) rfl ?_
             refine run ?_
             obtain rfl := Option.some.inj h
             exact G_joined sA (cv_sel [0] 1 rfl rfl)
            ·have h := cond_f g39 hb39
             refine run ?_
             obtain rfl := Option.some.inj h
             exact G_joined sA (cv_sel [0] 1 rfl rfl)
           refine run ?_
           obtain ⟨b41, hb41, h⟩ := bind_elim h
           refine G_segb 4 109 b41 ?_ ?_
           ·clear h
            refine G_case 105 rfl (fun g41 => ?_) (fun g41 => ?_)
            ·have h := cond_t g41 hb41
             refine run ?_
             obtain ⟨q42, h⟩ := req_elim h
             refine G_cut 0 rfl (l := (1 : Int).toNat) (h := a0.More.length) q42.2.1 q42.2.2 ?_
             rintro A43 n43 c43 e43
             refine G_rd (rd_cutN 1 rfl e43 rfl Tryz.underlying25 size38 rfl (by rw [Int.toNat_of_nonneg q42.1]; rfl) q42.2.1) rfl (g_tt g41 rfl) rfl ?_
             obtain ⟨y44, hy44, h⟩ := bind_elim h
             refine G_opd (op_callR (r15_entries_ok hy44) call185 rfl (mem_cons (lent_ro (i := 0) rfl rfl) mem_nil) r15_entries_free) rfl (g_tt g41 rfl) rfl ?_
             rintro _ _ ⟨_, ⟨rfl, rfl⟩, rfl⟩
             refine run ?_
             obtain rfl := Option.some.inj h
             exact G_joined sA (cv_sel [1] 2 rfl rfl)
            ·have h := cond_f g41 hb41
             refine run ?_
             obtain rfl := Option.some.inj h
             exact G_joined sA (cv_sel [0] 1 rfl rfl)
           refine run ?_
           obtain rfl := Option.some.inj h
           exact endG1 rfl rfl (cv_sel [] 1 rfl rfl) ⟨rfl, rfl⟩
          ·replace h := cond_f g38 h
           refine run ?_
           refine G_cond rfl (fun g45 => ?_) (fun g45 => ?_)
           ·replace h := cond_t g45 h
            refine run ?_
            refine gR (rd_len 0 rfl els_sl rfl Tryz.underlying25) ?_
            refine run ?_
            obtain ⟨b46, hb46, h⟩ := bind_elim h
            refine G_segb 5 120 b46 ?_ ?_
            ·clear h
             refine G_case 115 rfl (fun g46 => ?_) (fun g46 => ?_)
             ·have h := cond_t g46 hb46
              refine run ?_
              obtain ⟨x47, hx47, h⟩ := bind_elim h
              obtain ⟨lx47, ux47, hx47⟩ := getE_elim hx47
              refine G_rd (rd_idx 0 rfl els_sl rfl rfl Tryz.underlying25 size38 lx47 ux47) rfl (g_tt g46 rfl) rfl ?_
              refine G_rd (rd_elemS (us := [iV x47.Kind, iV x47.N, .string x47.S]) 0 rfl els_sl rfl hx47 agg38 (fun _ _ _ h => by rw [show _ = _ from h]; rfl)) rfl (g_tt g46 rfl) rfl ?_
              obtain ⟨y48, hy48, h⟩ := bind_elim h
              refine G_opd (op_callR (r15_num_ok hy48) call184 rfl (mem_nil) r15_num_free) rfl (g_tt g46 rfl) rfl ?_
              rintro _ _ ⟨_, ⟨rfl, rfl⟩, rfl⟩
              refine run ?_
              obtain rfl := Option.some.inj h
              exact G_joined sA (cv_sel [0] 1 rfl rfl)
             ·have h := cond_f g46 hb46
              refine run ?_
              obtain rfl := Option.some.inj h
              exact G_joined sA (cv_sel [0] 1 rfl rfl)
            refine run ?_
            obtain rfl := Option.some.inj h
            exact endG1 rfl rfl (cv_sel [] 1 rfl rfl) ⟨rfl, rfl⟩
           ·replace h := cond_f g45 h
            refine run ?_
            obtain rfl := Option.some.inj h
            exact endG1 rfl rfl (cv_sel [] 1 rfl rfl) ⟨rfl, rfl⟩
theorem r15_more_free {r : Bool} : ∀ v post, ((fun (u : Value) (post : List Chunk) => u = .bool r ∧ post = [])) v post → ∀ c ∈ post, Free c := by
 rintro _ _ ⟨rfl, rfl⟩; exact mem_nil
end Go.Proofs.YtmbaennilhdieaaGreat
/- Pure functions and contracts of Go functions (printed by all3.py). -/
namespace Go.Proofs.YtmbaennilhdieaaGreat
open Go.RowKit Asn
set_option maxRecDepth 20000
def r15_Right_j19 (N : Nat) (a0 : DCell) : Option Bool :=
 (r15_slots_O N a0).bind fun y27 => (bif y27 then ((r15_more_O N a0).bind fun y29 => some y29) else (some false)).bind fun b28 => some b28
def r15_Right_l20 (N : Nat) (a0 : DCell) : Nat → Int → Option Bool
 | 0, _ => none
 | m20 + 1, p21 => bif decide (p21 < (a0.More.length : Int)) then ((getE a0.More p21).bind fun x23 => (r15_May_O N x23).bind fun y24 => bif !y24 then (some false) else (req (in64 (p21 + 1)) ((r15_Right_l20 N a0 m20) (p21 + 1)))) else (r15_Right_j19 N a0)
theorem r15_Right_l20_s {N m20 : Nat} {a0 : DCell} {p21 : Int} : r15_Right_l20 N a0 (m20 + 1) p21 = bif decide (p21 < (a0.More.length : Int)) then ((getE a0.More p21).bind fun x23 => (r15_May_O N x23).bind fun y24 => bif !y24 then (some false) else (req (in64 (p21 + 1)) ((r15_Right_l20 N a0 m20) (p21 + 1)))) else (r15_Right_j19 N a0) := rfl
def r15_Right_j11 (N : Nat) (a0 : DCell) : Option Bool :=
 r15_Right_l20 N a0 N 0
def r15_Right_l12 (N : Nat) (a0 : DCell) : Nat → Int → Option Bool
 | 0, _ => none
 | m12 + 1, p13 => bif decide (p13 < (a0.Slots.length : Int)) then ((getE a0.Slots p13).bind fun x15 => (r15_May_O N x15).bind fun y16 => bif !y16 then (some false) else (req (in64 (p13 + 1)) ((r15_Right_l12 N a0 m12) (p13 + 1)))) else (r15_Right_j11 N a0)
theorem r15_Right_l12_s {N m12 : Nat} {a0 : DCell} {p13 : Int} : r15_Right_l12 N a0 (m12 + 1) p13 = bif decide (p13 < (a0.Slots.length : Int)) then ((getE a0.Slots p13).bind fun x15 => (r15_May_O N x15).bind fun y16 => bif !y16 then (some false) else (req (in64 (p13 + 1)) ((r15_Right_l12 N a0 m12) (p13 + 1)))) else (r15_Right_j11 N a0) := rfl
def r15_Right_O (N : Nat) (a0 : DCell) : Option Bool :=
 (bif decide (a0.Kind < 1) then (some true) else (some (decide (11 < a0.Kind)))).bind fun b4 => (bif b4 then (some true) else (some (decide (a0.Shape < 0)))).bind fun b5 => (bif b5 then (some true) else (some (decide (a0.Flags < 0)))).bind fun b6 => (bif b6 then (some true) else (some (decide (63 < a0.Flags)))).bind fun b7 => (bif b7 then (some true) else (some (decide (a0.Age < 0)))).bind fun b8 => (bif b8 then (some true) else (some (decide (1 < a0.Age)))).bind fun b9 => bif b9 then (some false) else (r15_Right_l12 N a0 N 0)
theorem r15_Right_ok {N : Nat} {a0 : DCell} {r : Bool} (h : r15_Right_O N a0 = some r) {A1 : Option Addr} {n1 c1 : Nat} {A2 : Option Addr} {n2 c2 : Nat} : Okc Tryz.prog 92 [.agg #[iV a0.Kind, iV a0.Shape, iV a0.Flags, iV a0.Age, .slice A1 n1 c1, .slice A2 n2 c2]] ([kS0 A1 n1 c1 a0.Slots, kS0 A2 n2 c2 a0.More]) (fun (u : Value) (post : List Chunk) => u = .bool r ∧ post = []) := by
 refine ok_E Tryz.func92 rfl rfl ?_
 simp only [envOf]
 refine run ?_
 refine gD (op_box rfl rfl) ?_
 rintro _ _ ⟨B3, rfl, rfl⟩
 refine run ?_
 refine G_seq ?_
 refine run ?_
 obtain ⟨b4, hb4, h⟩ := bind_elim h
 refine G_segb 4 12 b4 ?_ ?_
 ·clear h
  refine G_case 8 rfl (fun g4 => ?_) (fun g4 => ?_)
  ·have h := cond_t g4 hb4
   refine run ?_
   obtain rfl := Option.some.inj h
   exact G_joined sA (cv_sel [0, 1, 2] 3 rfl rfl)
  ·have h := cond_f g4 hb4
   refine run ?_
   obtain rfl := Option.some.inj h
   exact G_joined sA (cv_sel [0, 1, 2] 3 rfl rfl)
 refine run ?_
 obtain ⟨b5, hb5, h⟩ := bind_elim h
 refine G_segb 4 17 b5 ?_ ?_
 ·clear h
  refine G_case 13 rfl (fun g5 => ?_) (fun g5 => ?_)
  ·have h := cond_t g5 hb5
   refine run ?_
   obtain rfl := Option.some.inj h
   exact G_joined sA (cv_sel [0, 1, 2] 3 rfl rfl)
  ·have h := cond_f g5 hb5
   refine run ?_
   obtain rfl := Option.some.inj h
   exact G_joined sA (cv_sel [0, 1, 2] 3 rfl rfl)
 refine run ?_
 obtain ⟨b6, hb6, h⟩ := bind_elim h
 refine G_segb 4 22 b6 ?_ ?_
 ·clear h
  refine G_case 18 rfl (fun g6 => ?_) (fun g6 => ?_)
  ·have h := cond_t g6 hb6
   refine run ?_
   obtain rfl := Option.some.inj h
   exact G_joined sA (cv_sel [0, 1, 2] 3 rfl rfl)
  ·have h := cond_f g6 hb6
   refine run ?_
   obtain rfl := Option.some.inj h
   exact G_joined sA (cv_sel [0, 1, 2] 3 rfl rfl)
 refine run ?_
 obtain ⟨b7, hb7, h⟩ := bind_elim h
 refine G_segb 4 27 b7 ?_ ?_
 ·clear h
  refine G_case 23 rfl (fun g7 => ?_) (fun g7 => ?_)
  ·have h := cond_t g7 hb7
   refine run ?_
   obtain rfl := Option.some.inj h
   exact G_joined sA (cv_sel [0, 1, 2] 3 rfl rfl)
  ·have h := cond_f g7 hb7
   refine run ?_
   obtain rfl := Option.some.inj h
   exact G_joined sA (cv_sel [0, 1, 2] 3 rfl rfl)
 refine run ?_
 obtain ⟨b8, hb8, h⟩ := bind_elim h
 refine G_segb 4 32 b8 ?_ ?_
 ·clear h
  refine G_case 28 rfl (fun g8 => ?_) (fun g8 => ?_)
  ·have h := cond_t g8 hb8
   refine run ?_
   obtain rfl := Option.some.inj h
   exact G_joined sA (cv_sel [0, 1, 2] 3 rfl rfl)
  ·have h := cond_f g8 hb8
   refine run ?_
   obtain rfl := Option.some.inj h
   exact G_joined sA (cv_sel [0, 1, 2] 3 rfl rfl)
 refine run ?_
 obtain ⟨b9, hb9, h⟩ := bind_elim h
 refine G_segb 4 37 b9 ?_ ?_
 ·clear h
  refine G_case 33 rfl (fun g9 => ?_) (fun g9 => ?_)
  ·have h := cond_t g9 hb9
   refine run ?_
   obtain rfl := Option.some.inj h
   exact G_joined sA (cv_sel [0, 1, 2] 3 rfl rfl)
  ·have h := cond_f g9 hb9
   refine run ?_
   obtain rfl := Option.some.inj h
   exact G_joined sA (cv_sel [0, 1, 2] 3 rfl rfl)
 refine run ?_
 refine G_cond rfl (fun g10 => ?_) (fun g10 => ?_)
 ·replace h := cond_t g10 h
  refine run ?_
  obtain rfl := Option.some.inj h
  exact endG1 rfl rfl (cv_sel [] 3 rfl rfl) ⟨rfl, rfl⟩
 ·replace h := cond_f g10 h
  refine run ?_
  refine G_joinF (fun s L => r15_Right_j11 N a0 = some r ∧ s = [(1, pV B3 0), (2, .bool false)] ∧ L = [kS0 A1 n1 c1 a0.Slots, kS0 A2 n2 c2 a0.More, boxC B3 32 [iV a0.Kind, iV a0.Shape, iV a0.Flags, iV a0.Age, .slice A1 n1 c1, .slice A2 n2 c2]]) ?_ ?_
  ·refine run ?_
   refine G_loopF (fun m s L => ∃ (p13 : Int), r15_Right_l12 N a0 m p13 = some r ∧ s = [(1, pV B3 0), (2, .bool false), (3, iV p13)] ∧ L = [kS0 A1 n1 c1 a0.Slots, kS0 A2 n2 c2 a0.More, boxC B3 32 [iV a0.Kind, iV a0.Shape, iV a0.Flags, iV a0.Age, .slice A1 n1 c1, .slice A2 n2 c2]]) N _ _ ⟨0, h, rfl, rfl⟩ sA (cv_sel [1, 2, 0] 3 rfl rfl) ?_
   rintro (_ | m12) _ _ ⟨p13, h, rfl, rfl⟩
   ·exact none_some h
   rw [r15_Right_l12_s] at h
   refine G_seq ?_
   refine run ?_
   refine gR (rd_len 0 rfl els_sl rfl Tryz.underlying25) ?_
   refine run ?_
   refine G_cond rfl (fun g14 => ?_) (fun g14 => ?_)
   ·replace h := cond_t g14 h
    refine run ?_
    refine G_seq ?_
    refine run ?_
    obtain ⟨x15, hx15, h⟩ := bind_elim h
    obtain ⟨lx15, ux15, hx15⟩ := getE_elim hx15
    refine gR (rd_idx 0 rfl els_sl rfl rfl Tryz.underlying25 size38 lx15 ux15) ?_
    refine gR (rd_elemS (us := [iV x15.Kind, iV x15.N, .string x15.S]) 0 rfl els_sl rfl hx15 agg38 (fun _ _ _ h => by rw [show _ = _ from h]; rfl)) ?_
    obtain ⟨y16, hy16, h⟩ := bind_elim h
    refine gD (op_callR (r15_May_ok hy16) call144 rfl (mem_nil) r15_May_free) ?_
    rintro _ _ ⟨_, ⟨rfl, rfl⟩, rfl⟩
    refine run ?_
    refine G_cond rfl (fun g17 => ?_) (fun g17 => ?_)
    ·replace h := cond_t g17 h
     refine run ?_
     obtain rfl := Option.some.inj h
     exact endG1 rfl rfl (cv_sel [] 3 rfl rfl) ⟨rfl, rfl⟩
    ·replace h := cond_f g17 h
     refine run ?_
     obtain ⟨q18, h⟩ := req_elim h
     refine gE (ev_add rfl rfl q18.1 q18.2) ?_
     refine run ?_
     exact ⟨m12, _, _, Nat.lt_succ_self _, ⟨p13 + 1, h, rfl, rfl⟩, sA, cv_sel [0, 1, 2] 3 rfl rfl⟩
   ·replace h := cond_f g14 h
    refine run ?_
    exact ⟨_, _, ⟨h, rfl, rfl⟩, sA, cv_sel [0, 1, 2] 3 rfl rfl⟩
  ·rintro _ _ ⟨h, rfl, rfl⟩
   refine G_joinF (fun s L => r15_Right_j19 N a0 = some r ∧ s = [(1, pV B3 0), (2, .bool false)] ∧ L = [kS0 A1 n1 c1 a0.Slots, kS0 A2 n2 c2 a0.More, boxC B3 32 [iV a0.Kind, iV a0.Shape, iV a0.Flags, iV a0.Age, .slice A1 n1 c1, .slice A2 n2 c2]]) ?_ ?_
   ·refine run ?_
    refine G_loopF (fun m s L => ∃ (p21 : Int), r15_Right_l20 N a0 m p21 = some r ∧ s = [(1, pV B3 0), (2, .bool false), (4, iV p21)] ∧ L = [kS0 A1 n1 c1 a0.Slots, kS0 A2 n2 c2 a0.More, boxC B3 32 [iV a0.Kind, iV a0.Shape, iV a0.Flags, iV a0.Age, .slice A1 n1 c1, .slice A2 n2 c2]]) N _ _ ⟨0, h, rfl, rfl⟩ sA (cv_sel [0, 1, 2] 3 rfl rfl) ?_
    rintro (_ | m20) _ _ ⟨p21, h, rfl, rfl⟩
    ·exact none_some h
    rw [r15_Right_l20_s] at h
    refine G_seq ?_
    refine run ?_
    refine gR (rd_len 1 rfl els_sl rfl Tryz.underlying25) ?_
    refine run ?_
    refine G_cond rfl (fun g22 => ?_) (fun g22 => ?_)
    ·replace h := cond_t g22 h
     refine run ?_
     refine G_seq ?_
     refine run ?_
     obtain ⟨x23, hx23, h⟩ := bind_elim h
     obtain ⟨lx23, ux23, hx23⟩ := getE_elim hx23
     refine gR (rd_idx 1 rfl els_sl rfl rfl Tryz.underlying25 size38 lx23 ux23) ?_
     refine gR (rd_elemS (us := [iV x23.Kind, iV x23.N, .string x23.S]) 1 rfl els_sl rfl hx23 agg38 (fun _ _ _ h => by rw [show _ = _ from h]; rfl)) ?_
     obtain ⟨y24, hy24, h⟩ := bind_elim h
     refine gD (op_callR (r15_May_ok hy24) call144 rfl (mem_nil) r15_May_free) ?_
     rintro _ _ ⟨_, ⟨rfl, rfl⟩, rfl⟩
     refine run ?_
     refine G_cond rfl (fun g25 => ?_) (fun g25 => ?_)
     ·replace h := cond_t g25 h
      refine run ?_
      obtain rfl := Option.some.inj h
      exact endG1 rfl rfl (cv_sel [] 3 rfl rfl) ⟨rfl, rfl⟩
     ·replace h := cond_f g25 h
      refine run ?_
      obtain ⟨q26, h⟩ := req_elim h
      refine gE (ev_add rfl rfl q26.1 q26.2) ?_
      refine run ?_
      exact ⟨m20, _, _, Nat.lt_succ_self _, ⟨p21 + 1, h, rfl, rfl⟩, sA, cv_sel [0, 1, 2] 3 rfl rfl⟩
    ·replace h := cond_f g22 h
     refine run ?_
     exact ⟨_, _, ⟨h, rfl, rfl⟩, sA, cv_sel [0, 1, 2] 3 rfl rfl⟩
   ·rintro _ _ ⟨h, rfl, rfl⟩
    refine run ?_
    refine gR (rd_boxS (us := [iV a0.Kind, iV a0.Shape, iV a0.Flags, iV a0.Age, .slice A1 n1 c1, .slice A2 n2 c2]) 2 rfl rfl agg32 rfl) ?_
    obtain ⟨y27, hy27, h⟩ := bind_elim h
    refine gD (op_callR (r15_slots_ok hy27) call145 rfl (mem_cons (lent_ro (i := 0) rfl rfl) (mem_cons (lent_ro (i := 1) rfl rfl) mem_nil)) r15_slots_free) ?_
    rintro _ _ ⟨_, ⟨rfl, rfl⟩, rfl⟩
    refine run ?_
    obtain ⟨b28, hb28, h⟩ := bind_elim h
    refine G_segb 3 71 b28 ?_ ?_
    ·clear h
     refine G_case 68 rfl (fun g28 => ?_) (fun g28 => ?_)
     ·have h := cond_t g28 hb28
      refine G_rd (rd_boxS (us := [iV a0.Kind, iV a0.Shape, iV a0.Flags, iV a0.Age, .slice A1 n1 c1, .slice A2 n2 c2]) 2 rfl rfl agg32 rfl) rfl (g_tt g28 rfl) rfl ?_
      obtain ⟨y29, hy29, h⟩ := bind_elim h
      refine G_opd (op_callR (r15_more_ok hy29) call146 rfl (mem_cons (lent_ro (i := 0) rfl rfl) (mem_cons (lent_ro (i := 1) rfl rfl) mem_nil)) r15_more_free) rfl (g_tt g28 rfl) rfl ?_
      rintro _ _ ⟨_, ⟨rfl, rfl⟩, rfl⟩
      refine run ?_
      obtain rfl := Option.some.inj h
      exact G_joined sA (cv_sel [0, 1, 2] 3 rfl rfl)
     ·have h := cond_f g28 hb28
      refine run ?_
      obtain rfl := Option.some.inj h
      exact G_joined sA (cv_sel [0, 1, 2] 3 rfl rfl)
    refine run ?_
    obtain rfl := Option.some.inj h
    exact endG1 rfl rfl (cv_sel [] 3 rfl rfl) ⟨rfl, rfl⟩
theorem r15_Right_free {r : Bool} : ∀ v post, ((fun (u : Value) (post : List Chunk) => u = .bool r ∧ post = [])) v post → ∀ c ∈ post, Free c := by
 rintro _ _ ⟨rfl, rfl⟩; exact mem_nil
def r15_has_O (N : Nat) (a0 : DValue) : Option Bool :=
 (bif decide (a0.Kind = 7) then (some true) else (some (decide (a0.Kind = 9)))).bind fun b2 => some b2
theorem r15_has_ok {N : Nat} {a0 : DValue} {r : Bool} (h : r15_has_O N a0 = some r) : Okc Tryz.prog 147 [.agg #[iV a0.Kind, iV a0.N, .string a0.S]] ([]) (fun (u : Value) (post : List Chunk) => u = .bool r ∧ post = []) := by
 refine ok_E Tryz.func147 rfl rfl ?_
 simp only [envOf]
 refine run ?_
 refine gD (op_box rfl rfl) ?_
 rintro _ _ ⟨B1, rfl, rfl⟩
 refine run ?_
 obtain ⟨b2, hb2, h⟩ := bind_elim h
 refine G_segb 4 10 b2 ?_ ?_
 ·clear h
  refine G_case 6 rfl (fun g2 => ?_) (fun g2 => ?_)
  ·have h := cond_t g2 hb2
   refine run ?_
   obtain rfl := Option.some.inj h
   exact G_joined sA (cv_sel [0] 1 rfl rfl)
  ·have h := cond_f g2 hb2
   refine run ?_
   obtain rfl := Option.some.inj h
   exact G_joined sA (cv_sel [0] 1 rfl rfl)
 refine run ?_
 obtain rfl := Option.some.inj h
 exact endG1 rfl rfl (cv_sel [] 1 rfl rfl) ⟨rfl, rfl⟩
theorem r15_has_free {r : Bool} : ∀ v post, ((fun (u : Value) (post : List Chunk) => u = .bool r ∧ post = [])) v post → ∀ c ∈ post, Free c := by
 rintro _ _ ⟨rfl, rfl⟩; exact mem_nil
def r15_weak_O (N : Nat) (a0 : Int) (a1 : Int) : Option Bool :=
 (bif decide (a0 = 8) then (some true) else ((bif decide (a0 = 10) then (some (decide (0 < a1))) else (some false)).bind fun b2 => (bif b2 then (req (in64 (a1 - 1)) (some (decide (((a1 - 1).tmod 4).tmod 2 = 0)))) else (some false)).bind fun b3 => some b3)).bind fun b1 => some b1
theorem r15_weak_ok {N : Nat} {a0 : Int} {a1 : Int} {r : Bool} (h : r15_weak_O N a0 a1 = some r) : Okc Tryz.prog 148 [iV a0, iV a1] ([]) (fun (u : Value) (post : List Chunk) => u = .bool r ∧ post = []) := by
 refine ok_E Tryz.func148 rfl rfl ?_
 simp only [envOf]
 refine run ?_
 obtain ⟨b1, hb1, h⟩ := bind_elim h
 refine G_segb 14 21 b1 ?_ ?_
 ·clear h
  refine G_case 7 rfl (fun g1 => ?_) (fun g1 => ?_)
  ·have h := cond_t g1 hb1
   refine run ?_
   obtain rfl := Option.some.inj h
   exact G_joined sA (cv_sel [] 0 rfl rfl)
  ·have h := cond_f g1 hb1
   refine run ?_
   obtain ⟨b2, hb2, h⟩ := bind_elim h
   refine G_segb 3 13 b2 ?_ ?_
   ·clear h
    refine G_case 10 rfl (fun g2 => ?_) (fun g2 => ?_)
    ·have h := cond_t g2 hb2
     refine run ?_
     obtain rfl := Option.some.inj h
     exact G_joined sA (cv_sel [] 0 rfl rfl)
    ·have h := cond_f g2 hb2
     refine run ?_
     obtain rfl := Option.some.inj h
     exact G_joined sA (cv_sel [] 0 rfl rfl)
   refine run ?_
   obtain ⟨b3, hb3, h⟩ := bind_elim h
   refine G_segb 6 20 b3 ?_ ?_
   ·clear h
    refine G_case 14 rfl (fun g3 => ?_) (fun g3 => ?_)
    ·have h := cond_t g3 hb3
     refine run ?_
     obtain ⟨q4, h⟩ := req_elim h
     refine G_ev (ev_sub rfl rfl q4.1 q4.2) rfl (g_tt g3 rfl) rfl ?_
     refine G_ev (ev_rem rfl rfl (by decide)) rfl (g_tt g3 rfl) rfl ?_
     refine G_ev (ev_rem rfl rfl (by decide)) rfl (g_tt g3 rfl) rfl ?_
     refine run ?_
     obtain rfl := Option.some.inj h
     exact G_joined sA (cv_sel [] 0 rfl rfl)
    ·have h := cond_f g3 hb3
     refine run ?_
     obtain rfl := Option.some.inj h
     exact G_joined sA (cv_sel [] 0 rfl rfl)
   refine run ?_
   obtain rfl := Option.some.inj h
   exact G_joined sA (cv_sel [] 0 rfl rfl)
 refine run ?_
 obtain rfl := Option.some.inj h
 exact endG1 rfl rfl (cv_sel [] 0 rfl rfl) ⟨rfl, rfl⟩
theorem r15_weak_free {r : Bool} : ∀ v post, ((fun (u : Value) (post : List Chunk) => u = .bool r ∧ post = [])) v post → ∀ c ∈ post, Free c := by
 rintro _ _ ⟨rfl, rfl⟩; exact mem_nil
def r15_Leads_j21 (N : Nat) (p22 : (List Int)) : Option (List Int) :=
 some p22
def r15_Leads_j27 (N : Nat) (kb23 : (List Int) → Int → Option (List Int)) (p25 : Int) (a0 : DCell) (p28 : (List Int)) : Option (List Int) :=
 req (in64 (p25 + 1)) (kb23 p28 (p25 + 1))
def r15_Leads_l23 (N : Nat) (a0 : DCell) : Nat → (List Int) → Int → Option (List Int)
 | 0, _, _ => none
 | m23 + 1, p24, p25 => bif decide (p25 < (a0.More.length : Int)) then ((getE a0.More p25).bind fun x29 => (r15_has_O N x29).bind fun y30 => (bif y30 then ((r15_weak_O N a0.Kind p25).bind fun y32 => some (!y32)) else (some false)).bind fun b31 => bif b31 then ((getE a0.More p25).bind fun x34 => req (fitsL (p24.length + ([x34.N] : List Int).length)) (r15_Leads_j27 N (r15_Leads_l23 N a0 m23) p25 a0 (p24 ++ ([x34.N] : List Int)))) else (r15_Leads_j27 N (r15_Leads_l23 N a0 m23) p25 a0 p24)) else (r15_Leads_j21 N p24)
theorem r15_Leads_l23_s {N m23 : Nat} {a0 : DCell} {p24 : (List Int)} {p25 : Int} : r15_Leads_l23 N a0 (m23 + 1) p24 p25 = bif decide (p25 < (a0.More.length : Int)) then ((getE a0.More p25).bind fun x29 => (r15_has_O N x29).bind fun y30 => (bif y30 then ((r15_weak_O N a0.Kind p25).bind fun y32 => some (!y32)) else (some false)).bind fun b31 => bif b31 then ((getE a0.More p25).bind fun x34 => req (fitsL (p24.length + ([x34.N] : List Int).length)) (r15_Leads_j27 N (r15_Leads_l23 N a0 m23) p25 a0 (p24 ++ ([x34.N] : List Int)))) else (r15_Leads_j27 N (r15_Leads_l23 N a0 m23) p25 a0 p24)) else (r15_Leads_j21 N p24) := rfl
def r15_Leads_j4 (N : Nat) (a0 : DCell) (p5 : (List Int)) : Option (List Int) :=
 r15_Leads_l23 N a0 N p5 0
def r15_Leads_j11 (N : Nat) (kb6 : (List Int) → Int → Option (List Int)) (p8 : Int) (a0 : DCell) (p12 : (List Int)) : Option (List Int) :=
 req (in64 (p8 + 1)) (kb6 p12 (p8 + 1))
def r15_Leads_l6 (N : Nat) (a0 : DCell) : Nat → (List Int) → Int → Option (List Int)
 | 0, _, _ => none
 | m6 + 1, p7, p8 => bif decide (p8 < (a0.Slots.length : Int)) then ((getE a0.Slots p8).bind fun x13 => (r15_has_O N x13).bind fun y14 => bif y14 then ((getE a0.Slots p8).bind fun x16 => req (fitsL (p7.length + ([x16.N] : List Int).length)) (r15_Leads_j11 N (r15_Leads_l6 N a0 m6) p8 a0 (p7 ++ ([x16.N] : List Int)))) else (r15_Leads_j11 N (r15_Leads_l6 N a0 m6) p8 a0 p7)) else (r15_Leads_j4 N a0 p7)
theorem r15_Leads_l6_s {N m6 : Nat} {a0 : DCell} {p7 : (List Int)} {p8 : Int} : r15_Leads_l6 N a0 (m6 + 1) p7 p8 = bif decide (p8 < (a0.Slots.length : Int)) then ((getE a0.Slots p8).bind fun x13 => (r15_has_O N x13).bind fun y14 => bif y14 then ((getE a0.Slots p8).bind fun x16 => req (fitsL (p7.length + ([x16.N] : List Int).length)) (r15_Leads_j11 N (r15_Leads_l6 N a0 m6) p8 a0 (p7 ++ ([x16.N] : List Int)))) else (r15_Leads_j11 N (r15_Leads_l6 N a0 m6) p8 a0 p7)) else (r15_Leads_j4 N a0 p7) := rfl
def r15_Leads_O (N : Nat) (a0 : DCell) : Option (List Int) :=
 r15_Leads_l6 N a0 N [] 0
theorem r15_Leads_ok {N : Nat} {a0 : DCell} {r : (List Int)} (h : r15_Leads_O N a0 = some r) {A1 : Option Addr} {n1 c1 : Nat} {A2 : Option Addr} {n2 c2 : Nat} : Okc Tryz.prog 93 [.agg #[iV a0.Kind, iV a0.Shape, iV a0.Flags, iV a0.Age, .slice A1 n1 c1, .slice A2 n2 c2]] ([kS0 A1 n1 c1 a0.Slots, kS0 A2 n2 c2 a0.More]) (fun (u : Value) (post : List Chunk) => ∃ A0 n0 c0, u = .slice A0 n0 c0 ∧ post = [kO2 A0 n0 c0 r]) := by
 refine ok_E Tryz.func93 rfl rfl ?_
 simp only [envOf]
 refine run ?_
 refine gD (op_box rfl rfl) ?_
 rintro _ _ ⟨B3, rfl, rfl⟩
 refine run ?_
 refine G_joinF (fun s L => ∃ (p5 : (List Int)) (A5 : Option Addr) (n5 c5 : Nat), r15_Leads_j4 N a0 p5 = some r ∧ s = [(1, pV B3 0), (2, .slice none 0 0), (3, .slice A5 n5 c5)] ∧ L = [kO2 A5 n5 c5 p5, kS0 A1 n1 c1 a0.Slots, kS0 A2 n2 c2 a0.More, boxC B3 32 [iV a0.Kind, iV a0.Shape, iV a0.Flags, iV a0.Age, .slice A1 n1 c1, .slice A2 n2 c2]]) ?_ ?_
 ·refine run ?_
  refine G_loopF (fun m s L => ∃ (p7 : (List Int)) (p8 : Int) (A7 : Option Addr) (n7 c7 : Nat), r15_Leads_l6 N a0 m p7 p8 = some r ∧ s = [(1, pV B3 0), (2, .slice none 0 0), (3, .slice A7 n7 c7), (4, iV p8)] ∧ L = [kO2 A7 n7 c7 p7, kS0 A1 n1 c1 a0.Slots, kS0 A2 n2 c2 a0.More, boxC B3 32 [iV a0.Kind, iV a0.Shape, iV a0.Flags, iV a0.Age, .slice A1 n1 c1, .slice A2 n2 c2]]) N _ _ ⟨[], 0, none, 0, 0, h, rfl, rfl⟩ sA ((cv_nil (rInt .i64) 3 _).trans (cv_sel [0, 2, 3, 1] 4 rfl rfl)) ?_
  rintro (_ | m6) _ _ ⟨p7, p8, A7, n7, c7, h, rfl, rfl⟩
  ·exact none_some h
  rw [r15_Leads_l6_s] at h
  refine G_seq ?_
  refine run ?_
  refine gR (rd_len 1 rfl els_sl rfl Tryz.underlying25) ?_
  refine run ?_
  refine G_cond rfl (fun g10 => ?_) (fun g10 => ?_)
  ·replace h := cond_t g10 h
   refine run ?_
   refine G_joinF (fun s L => ∃ (p12 : (List Int)) (A12 : Option Addr) (n12 c12 : Nat), r15_Leads_j11 N (r15_Leads_l6 N a0 m6) p8 a0 p12 = some r ∧ s = [(1, pV B3 0), (2, .slice none 0 0), (3, .slice A12 n12 c12), (4, iV p8)] ∧ L = [kO2 A12 n12 c12 p12, kS0 A1 n1 c1 a0.Slots, kS0 A2 n2 c2 a0.More, boxC B3 32 [iV a0.Kind, iV a0.Shape, iV a0.Flags, iV a0.Age, .slice A1 n1 c1, .slice A2 n2 c2]]) ?_ ?_
   ·refine run ?_
    obtain ⟨x13, hx13, h⟩ := bind_elim h
    obtain ⟨lx13, ux13, hx13⟩ := getE_elim hx13
    refine gR (rd_idx 1 rfl els_sl rfl rfl Tryz.underlying25 size38 lx13 ux13) ?_
    refine gR (rd_elemS (us := [iV x13.Kind, iV x13.N, .string x13.S]) 1 rfl els_sl rfl hx13 agg38 (fun _ _ _ h => by rw [show _ = _ from h]; rfl)) ?_
    obtain ⟨y14, hy14, h⟩ := bind_elim h
    refine gD (op_callR (r15_has_ok hy14) call147 rfl (mem_nil) r15_has_free) ?_
    rintro _ _ ⟨_, ⟨rfl, rfl⟩, rfl⟩
    refine run ?_
    refine G_cond rfl (fun g15 => ?_) (fun g15 => ?_)
    ·replace h := cond_t g15 h
     refine run ?_
     obtain ⟨x16, hx16, h⟩ := bind_elim h
     obtain ⟨lx16, ux16, hx16⟩ := getE_elim hx16
     refine gR (rd_idx 1 rfl els_sl rfl rfl Tryz.underlying25 size38 lx16 ux16) ?_
     refine gR (rd_fa 1 rfl els_sl rfl (toNat_lt lx16 ux16) fa_38_1) ?_
     refine gR (rd_elem1 (u := iV x16.N) 1 rfl els_sl rfl hx16 one3 (fun _ _ _ h => by rw [show _ = _ from h]; rfl)) ?_
     refine gD (op_bslice (R := (rInt .i64)) (vss := [[iV x16.N]]) (xs := [x16.N]) rfl (bsl_35_1 _) rfl rfl (fun _ _ hr => .cons rfl All2.nil)) ?_
     rintro _ _ ⟨A17, n17, c17, rfl, rfl⟩
     obtain ⟨q18, h⟩ := req_elim h
     refine gD (op_append 1 0 rfl rfl els_own rfl rfl Tryz.underlying35 zb3 rfl rfl q18) ?_
     rintro _ _ ⟨A19, n19, c19, rfl, rfl⟩
     refine run ?_
     exact ⟨_, _, ⟨p7 ++ ([x16.N] : List Int), A19, n19, c19, h, rfl, rfl⟩, sA, cv_sel [1, 2, 3, 4] 5 rfl rfl⟩
    ·replace h := cond_f g15 h
     refine run ?_
     exact ⟨_, _, ⟨p7, A7, n7, c7, h, rfl, rfl⟩, sA, cv_sel [0, 1, 2, 3] 4 rfl rfl⟩
   ·rintro _ _ ⟨p12, A12, n12, c12, h, rfl, rfl⟩
    refine run ?_
    obtain ⟨q20, h⟩ := req_elim h
    refine gE (ev_add rfl rfl q20.1 q20.2) ?_
    refine run ?_
    exact ⟨m6, _, _, Nat.lt_succ_self _, ⟨p12, p8 + 1, A12, n12, c12, h, rfl, rfl⟩, sA, cv_sel [0, 1, 2, 3] 4 rfl rfl⟩
  ·replace h := cond_f g10 h
   refine run ?_
   exact ⟨_, _, ⟨p7, A7, n7, c7, h, rfl, rfl⟩, sA, cv_sel [0, 1, 2, 3] 4 rfl rfl⟩
 ·rintro _ _ ⟨p5, A5, n5, c5, h, rfl, rfl⟩
  refine G_joinF (fun s L => ∃ (p22 : (List Int)) (A22 : Option Addr) (n22 c22 : Nat), r15_Leads_j21 N p22 = some r ∧ s = [(2, .slice none 0 0), (3, .slice A22 n22 c22)] ∧ L = [kO2 A22 n22 c22 p22]) ?_ ?_
  ·refine run ?_
   refine G_loopF (fun m s L => ∃ (p24 : (List Int)) (p25 : Int) (A24 : Option Addr) (n24 c24 : Nat), r15_Leads_l23 N a0 m p24 p25 = some r ∧ s = [(1, pV B3 0), (2, .slice none 0 0), (3, .slice A24 n24 c24), (5, iV p25)] ∧ L = [kO2 A24 n24 c24 p24, kS0 A1 n1 c1 a0.Slots, kS0 A2 n2 c2 a0.More, boxC B3 32 [iV a0.Kind, iV a0.Shape, iV a0.Flags, iV a0.Age, .slice A1 n1 c1, .slice A2 n2 c2]]) N _ _ ⟨p5, 0, A5, n5, c5, h, rfl, rfl⟩ sA (cv_sel [0, 1, 2, 3] 4 rfl rfl) ?_
   rintro (_ | m23) _ _ ⟨p24, p25, A24, n24, c24, h, rfl, rfl⟩
   ·exact none_some h
   rw [r15_Leads_l23_s] at h
   refine G_seq ?_
   refine run ?_
   refine gR (rd_len 2 rfl els_sl rfl Tryz.underlying25) ?_
   refine run ?_
   refine G_cond rfl (fun g26 => ?_) (fun g26 => ?_)
   ·replace h := cond_t g26 h
    refine run ?_
    refine G_joinF (fun s L => ∃ (p28 : (List Int)) (A28 : Option Addr) (n28 c28 : Nat), r15_Leads_j27 N (r15_Leads_l23 N a0 m23) p25 a0 p28 = some r ∧ s = [(1, pV B3 0), (2, .slice none 0 0), (3, .slice A28 n28 c28), (5, iV p25)] ∧ L = [kO2 A28 n28 c28 p28, kS0 A1 n1 c1 a0.Slots, kS0 A2 n2 c2 a0.More, boxC B3 32 [iV a0.Kind, iV a0.Shape, iV a0.Flags, iV a0.Age, .slice A1 n1 c1, .slice A2 n2 c2]]) ?_ ?_
    ·refine run ?_
     obtain ⟨x29, hx29, h⟩ := bind_elim h
     obtain ⟨lx29, ux29, hx29⟩ := getE_elim hx29
     refine gR (rd_idx 2 rfl els_sl rfl rfl Tryz.underlying25 size38 lx29 ux29) ?_
     refine gR (rd_elemS (us := [iV x29.Kind, iV x29.N, .string x29.S]) 2 rfl els_sl rfl hx29 agg38 (fun _ _ _ h => by rw [show _ = _ from h]; rfl)) ?_
     obtain ⟨y30, hy30, h⟩ := bind_elim h
     refine gD (op_callR (r15_has_ok hy30) call147 rfl (mem_nil) r15_has_free) ?_
     rintro _ _ ⟨_, ⟨rfl, rfl⟩, rfl⟩
     refine run ?_
     obtain ⟨b31, hb31, h⟩ := bind_elim h
     refine G_segb 6 47 b31 ?_ ?_
     ·clear h
      refine G_case 41 rfl (fun g31 => ?_) (fun g31 => ?_)
      ·have h := cond_t g31 hb31
       refine run ?_
       obtain ⟨y32, hy32, h⟩ := bind_elim h
       refine G_opd (op_callR (r15_weak_ok hy32) call148 rfl (mem_nil) r15_weak_free) rfl (g_tt g31 rfl) rfl ?_
       rintro _ _ ⟨_, ⟨rfl, rfl⟩, rfl⟩
       refine run ?_
       obtain rfl := Option.some.inj h
       exact G_joined sA (cv_sel [0, 1, 2, 3] 4 rfl rfl)
      ·have h := cond_f g31 hb31
       refine run ?_
       obtain rfl := Option.some.inj h
       exact G_joined sA (cv_sel [0, 1, 2, 3] 4 rfl rfl)
     refine run ?_
     refine G_cond rfl (fun g33 => ?_) (fun g33 => ?_)
     ·replace h := cond_t g33 h
      refine run ?_
      obtain ⟨x34, hx34, h⟩ := bind_elim h
      obtain ⟨lx34, ux34, hx34⟩ := getE_elim hx34
      refine gR (rd_idx 2 rfl els_sl rfl rfl Tryz.underlying25 size38 lx34 ux34) ?_
      refine gR (rd_fa 2 rfl els_sl rfl (toNat_lt lx34 ux34) fa_38_1) ?_
      refine gR (rd_elem1 (u := iV x34.N) 2 rfl els_sl rfl hx34 one3 (fun _ _ _ h => by rw [show _ = _ from h]; rfl)) ?_
      refine gD (op_bslice (R := (rInt .i64)) (vss := [[iV x34.N]]) (xs := [x34.N]) rfl (bsl_35_1 _) rfl rfl (fun _ _ hr => .cons rfl All2.nil)) ?_
      rintro _ _ ⟨A35, n35, c35, rfl, rfl⟩
      obtain ⟨q36, h⟩ := req_elim h
      refine gD (op_append 1 0 rfl rfl els_own rfl rfl Tryz.underlying35 zb3 rfl rfl q36) ?_
      rintro _ _ ⟨A37, n37, c37, rfl, rfl⟩
      refine run ?_
      exact ⟨_, _, ⟨p24 ++ ([x34.N] : List Int), A37, n37, c37, h, rfl, rfl⟩, sA, cv_sel [1, 2, 3, 4] 5 rfl rfl⟩
     ·replace h := cond_f g33 h
      refine run ?_
      exact ⟨_, _, ⟨p24, A24, n24, c24, h, rfl, rfl⟩, sA, cv_sel [0, 1, 2, 3] 4 rfl rfl⟩
    ·rintro _ _ ⟨p28, A28, n28, c28, h, rfl, rfl⟩
     refine run ?_
     obtain ⟨q38, h⟩ := req_elim h
     refine gE (ev_add rfl rfl q38.1 q38.2) ?_
     refine run ?_
     exact ⟨m23, _, _, Nat.lt_succ_self _, ⟨p28, p25 + 1, A28, n28, c28, h, rfl, rfl⟩, sA, cv_sel [0, 1, 2, 3] 4 rfl rfl⟩
   ·replace h := cond_f g26 h
    refine run ?_
    exact ⟨_, _, ⟨p24, A24, n24, c24, h, rfl, rfl⟩, sA, cv_sel [0] 4 rfl rfl⟩
  ·rintro _ _ ⟨p22, A22, n22, c22, h, rfl, rfl⟩
   refine run ?_
   obtain rfl := Option.some.inj h
   exact endG1 rfl rfl (cv_sel [0] 1 rfl rfl) ⟨_, _, _, rfl, rfl⟩
theorem r15_Leads_free {r : (List Int)} : ∀ v post, ((fun (u : Value) (post : List Chunk) => ∃ A0 n0 c0, u = .slice A0 n0 c0 ∧ post = [kO2 A0 n0 c0 r])) v post → ∀ c ∈ post, Free c := by
 rintro _ _ ⟨_, _, _, rfl, rfl⟩; exact mem_cons free_own (mem_nil)
def r15_Weakly_j4 (N : Nat) (p5 : (List Int)) : Option (List Int) :=
 some p5
def r15_Weakly_j11 (N : Nat) (kb6 : (List Int) → Int → Option (List Int)) (p8 : Int) (a0 : DCell) (p12 : (List Int)) : Option (List Int) :=
 req (in64 (p8 + 1)) (kb6 p12 (p8 + 1))
def r15_Weakly_l6 (N : Nat) (a0 : DCell) : Nat → (List Int) → Int → Option (List Int)
 | 0, _, _ => none
 | m6 + 1, p7, p8 => bif decide (p8 < (a0.More.length : Int)) then ((getE a0.More p8).bind fun x13 => (r15_has_O N x13).bind fun y14 => (bif y14 then ((r15_weak_O N a0.Kind p8).bind fun y16 => some y16) else (some false)).bind fun b15 => bif b15 then ((getE a0.More p8).bind fun x18 => req (fitsL (p7.length + ([x18.N] : List Int).length)) (r15_Weakly_j11 N (r15_Weakly_l6 N a0 m6) p8 a0 (p7 ++ ([x18.N] : List Int)))) else (r15_Weakly_j11 N (r15_Weakly_l6 N a0 m6) p8 a0 p7)) else (r15_Weakly_j4 N p7)
theorem r15_Weakly_l6_s {N m6 : Nat} {a0 : DCell} {p7 : (List Int)} {p8 : Int} : r15_Weakly_l6 N a0 (m6 + 1) p7 p8 = bif decide (p8 < (a0.More.length : Int)) then ((getE a0.More p8).bind fun x13 => (r15_has_O N x13).bind fun y14 => (bif y14 then ((r15_weak_O N a0.Kind p8).bind fun y16 => some y16) else (some false)).bind fun b15 => bif b15 then ((getE a0.More p8).bind fun x18 => req (fitsL (p7.length + ([x18.N] : List Int).length)) (r15_Weakly_j11 N (r15_Weakly_l6 N a0 m6) p8 a0 (p7 ++ ([x18.N] : List Int)))) else (r15_Weakly_j11 N (r15_Weakly_l6 N a0 m6) p8 a0 p7)) else (r15_Weakly_j4 N p7) := rfl
def r15_Weakly_O (N : Nat) (a0 : DCell) : Option (List Int) :=
 r15_Weakly_l6 N a0 N [] 0
theorem r15_Weakly_ok {N : Nat} {a0 : DCell} {r : (List Int)} (h : r15_Weakly_O N a0 = some r) {A1 : Option Addr} {n1 c1 : Nat} {A2 : Option Addr} {n2 c2 : Nat} : Okc Tryz.prog 94 [.agg #[iV a0.Kind, iV a0.Shape, iV a0.Flags, iV a0.Age, .slice A1 n1 c1, .slice A2 n2 c2]] ([kS0 A1 n1 c1 a0.Slots, kS0 A2 n2 c2 a0.More]) (fun (u : Value) (post : List Chunk) => ∃ A0 n0 c0, u = .slice A0 n0 c0 ∧ post = [kO2 A0 n0 c0 r]) := by
 refine ok_E Tryz.func94 rfl rfl ?_
 simp only [envOf]
 refine run ?_
 refine gD (op_box rfl rfl) ?_
 rintro _ _ ⟨B3, rfl, rfl⟩
 refine run ?_
 refine G_joinF (fun s L => ∃ (p5 : (List Int)) (A5 : Option Addr) (n5 c5 : Nat), r15_Weakly_j4 N p5 = some r ∧ s = [(2, .slice none 0 0), (3, .slice A5 n5 c5)] ∧ L = [kO2 A5 n5 c5 p5]) ?_ ?_
 ·refine run ?_
  refine G_loopF (fun m s L => ∃ (p7 : (List Int)) (p8 : Int) (A7 : Option Addr) (n7 c7 : Nat), r15_Weakly_l6 N a0 m p7 p8 = some r ∧ s = [(1, pV B3 0), (2, .slice none 0 0), (3, .slice A7 n7 c7), (4, iV p8)] ∧ L = [kO2 A7 n7 c7 p7, kS0 A1 n1 c1 a0.Slots, kS0 A2 n2 c2 a0.More, boxC B3 32 [iV a0.Kind, iV a0.Shape, iV a0.Flags, iV a0.Age, .slice A1 n1 c1, .slice A2 n2 c2]]) N _ _ ⟨[], 0, none, 0, 0, h, rfl, rfl⟩ sA ((cv_nil (rInt .i64) 3 _).trans (cv_sel [0, 2, 3, 1] 4 rfl rfl)) ?_
  rintro (_ | m6) _ _ ⟨p7, p8, A7, n7, c7, h, rfl, rfl⟩
  ·exact none_some h
  rw [r15_Weakly_l6_s] at h
  refine G_seq ?_
  refine run ?_
  refine gR (rd_len 2 rfl els_sl rfl Tryz.underlying25) ?_
  refine run ?_
  refine G_cond rfl (fun g10 => ?_) (fun g10 => ?_)
  ·replace h := cond_t g10 h
   refine run ?_
   refine G_joinF (fun s L => ∃ (p12 : (List Int)) (A12 : Option Addr) (n12 c12 : Nat), r15_Weakly_j11 N (r15_Weakly_l6 N a0 m6) p8 a0 p12 = some r ∧ s = [(1, pV B3 0), (2, .slice none 0 0), (3, .slice A12 n12 c12), (4, iV p8)] ∧ L = [kO2 A12 n12 c12 p12, kS0 A1 n1 c1 a0.Slots, kS0 A2 n2 c2 a0.More, boxC B3 32 [iV a0.Kind, iV a0.Shape, iV a0.Flags, iV a0.Age, .slice A1 n1 c1, .slice A2 n2 c2]]) ?_ ?_
   ·refine run ?_
    obtain ⟨x13, hx13, h⟩ := bind_elim h
    obtain ⟨lx13, ux13, hx13⟩ := getE_elim hx13
    refine gR (rd_idx 2 rfl els_sl rfl rfl Tryz.underlying25 size38 lx13 ux13) ?_
    refine gR (rd_elemS (us := [iV x13.Kind, iV x13.N, .string x13.S]) 2 rfl els_sl rfl hx13 agg38 (fun _ _ _ h => by rw [show _ = _ from h]; rfl)) ?_
    obtain ⟨y14, hy14, h⟩ := bind_elim h
    refine gD (op_callR (r15_has_ok hy14) call147 rfl (mem_nil) r15_has_free) ?_
    rintro _ _ ⟨_, ⟨rfl, rfl⟩, rfl⟩
    refine run ?_
    obtain ⟨b15, hb15, h⟩ := bind_elim h
    refine G_segb 5 23 b15 ?_ ?_
    ·clear h
     refine G_case 18 rfl (fun g15 => ?_) (fun g15 => ?_)
     ·have h := cond_t g15 hb15
      refine run ?_
      obtain ⟨y16, hy16, h⟩ := bind_elim h
      refine G_opd (op_callR (r15_weak_ok hy16) call148 rfl (mem_nil) r15_weak_free) rfl (g_tt g15 rfl) rfl ?_
      rintro _ _ ⟨_, ⟨rfl, rfl⟩, rfl⟩
      refine run ?_
      obtain rfl := Option.some.inj h
      exact G_joined sA (cv_sel [0, 1, 2, 3] 4 rfl rfl)
     ·have h := cond_f g15 hb15
      refine run ?_
      obtain rfl := Option.some.inj h
      exact G_joined sA (cv_sel [0, 1, 2, 3] 4 rfl rfl)
    refine run ?_
    refine G_cond rfl (fun g17 => ?_) (fun g17 => ?_)
    ·replace h := cond_t g17 h
     refine run ?_
     obtain ⟨x18, hx18, h⟩ := bind_elim h
     obtain ⟨lx18, ux18, hx18⟩ := getE_elim hx18
     refine gR (rd_idx 2 rfl els_sl rfl rfl Tryz.underlying25 size38 lx18 ux18) ?_
     refine gR (rd_fa 2 rfl els_sl rfl (toNat_lt lx18 ux18) fa_38_1) ?_
     refine gR (rd_elem1 (u := iV x18.N) 2 rfl els_sl rfl hx18 one3 (fun _ _ _ h => by rw [show _ = _ from h]; rfl)) ?_
     refine gD (op_bslice (R := (rInt .i64)) (vss := [[iV x18.N]]) (xs := [x18.N]) rfl (bsl_35_1 _) rfl rfl (fun _ _ hr => .cons rfl All2.nil)) ?_
     rintro _ _ ⟨A19, n19, c19, rfl, rfl⟩
     obtain ⟨q20, h⟩ := req_elim h
     refine gD (op_append 1 0 rfl rfl els_own rfl rfl Tryz.underlying35 zb3 rfl rfl q20) ?_
     rintro _ _ ⟨A21, n21, c21, rfl, rfl⟩
     refine run ?_
     exact ⟨_, _, ⟨p7 ++ ([x18.N] : List Int), A21, n21, c21, h, rfl, rfl⟩, sA, cv_sel [1, 2, 3, 4] 5 rfl rfl⟩
    ·replace h := cond_f g17 h
     refine run ?_
     exact ⟨_, _, ⟨p7, A7, n7, c7, h, rfl, rfl⟩, sA, cv_sel [0, 1, 2, 3] 4 rfl rfl⟩
   ·rintro _ _ ⟨p12, A12, n12, c12, h, rfl, rfl⟩
    refine run ?_
    obtain ⟨q22, h⟩ := req_elim h
    refine gE (ev_add rfl rfl q22.1 q22.2) ?_
    refine run ?_
    exact ⟨m6, _, _, Nat.lt_succ_self _, ⟨p12, p8 + 1, A12, n12, c12, h, rfl, rfl⟩, sA, cv_sel [0, 1, 2, 3] 4 rfl rfl⟩
  ·replace h := cond_f g10 h
   refine run ?_
   exact ⟨_, _, ⟨p7, A7, n7, c7, h, rfl, rfl⟩, sA, cv_sel [0] 4 rfl rfl⟩
 ·rintro _ _ ⟨p5, A5, n5, c5, h, rfl, rfl⟩
  refine run ?_
  obtain rfl := Option.some.inj h
  exact endG1 rfl rfl (cv_sel [0] 1 rfl rfl) ⟨_, _, _, rfl, rfl⟩
theorem r15_Weakly_free {r : (List Int)} : ∀ v post, ((fun (u : Value) (post : List Chunk) => ∃ A0 n0 c0, u = .slice A0 n0 c0 ∧ post = [kO2 A0 n0 c0 r])) v post → ∀ c ∈ post, Free c := by
 rintro _ _ ⟨_, _, _, rfl, rfl⟩; exact mem_cons free_own (mem_nil)
def r19_addresses_j3 (N : Nat) (p4 : (List Int)) : Option (List Int) :=
 some p4
def r19_addresses_j9 (N : Nat) (kb5 : (List Int) → Int → Option (List Int)) (p7 : Int) (a0 : (List DValue)) (p10 : (List Int)) : Option (List Int) :=
 req (in64 (p7 + 1)) (kb5 p10 (p7 + 1))
def r19_addresses_l5 (N : Nat) (a0 : (List DValue)) : Nat → (List Int) → Int → Option (List Int)
 | 0, _, _ => none
 | m5 + 1, p6, p7 => bif decide (p7 < (a0.length : Int)) then ((getE a0 p7).bind fun x11 => (bif decide (x11.Kind = 7) then (some true) else ((getE a0 p7).bind fun x13 => some (decide (x13.Kind = 9)))).bind fun b12 => bif b12 then ((getE a0 p7).bind fun x15 => req (fitsL (p6.length + ([x15.N] : List Int).length)) (r19_addresses_j9 N (r19_addresses_l5 N a0 m5) p7 a0 (p6 ++ ([x15.N] : List Int)))) else (r19_addresses_j9 N (r19_addresses_l5 N a0 m5) p7 a0 p6)) else (r19_addresses_j3 N p6)
theorem r19_addresses_l5_s {N m5 : Nat} {a0 : (List DValue)} {p6 : (List Int)} {p7 : Int} : r19_addresses_l5 N a0 (m5 + 1) p6 p7 = bif decide (p7 < (a0.length : Int)) then ((getE a0 p7).bind fun x11 => (bif decide (x11.Kind = 7) then (some true) else ((getE a0 p7).bind fun x13 => some (decide (x13.Kind = 9)))).bind fun b12 => bif b12 then ((getE a0 p7).bind fun x15 => req (fitsL (p6.length + ([x15.N] : List Int).length)) (r19_addresses_j9 N (r19_addresses_l5 N a0 m5) p7 a0 (p6 ++ ([x15.N] : List Int)))) else (r19_addresses_j9 N (r19_addresses_l5 N a0 m5) p7 a0 p6)) else (r19_addresses_j3 N p6) := rfl
def r19_addresses_O (N : Nat) (a0 : (List DValue)) : Option (List Int) :=
 r19_addresses_l5 N a0 N ([] : List Int) 0
def r19_In_j2 (N : Nat) : Option Bool :=
 some false
def r19_In_l3 (N : Nat) (a1 : Int) (a0 : (List Int)) : Nat → Int → Option Bool
 | 0, _ => none
 | m3 + 1, p4 => bif decide (p4 < (a0.length : Int)) then ((getE a0 p4).bind fun x6 => bif decide (x6 = a1) then (some true) else (req (in64 (p4 + 1)) ((r19_In_l3 N a1 a0 m3) (p4 + 1)))) else (r19_In_j2 N)
theorem r19_In_l3_s {N m3 : Nat} {a1 : Int} {a0 : (List Int)} {p4 : Int} : r19_In_l3 N a1 a0 (m3 + 1) p4 = bif decide (p4 < (a0.length : Int)) then ((getE a0 p4).bind fun x6 => bif decide (x6 = a1) then (some true) else (req (in64 (p4 + 1)) ((r19_In_l3 N a1 a0 m3) (p4 + 1)))) else (r19_In_j2 N) := rfl
def r19_In_O (N : Nat) (a0 : (List Int)) (a1 : Int) : Option Bool :=
 r19_In_l3 N a1 a0 N 0
def r19_lay_j6 (N : Nat) (p7 : (List Int)) : Option (List Int) :=
 some p7
def r19_lay_j12 (N : Nat) (kb8 : (List Int) → Int → Option (List Int)) (p10 : Int) (a2 : (List Int)) (a0 : DMemory) (p13 : (List Int)) : Option (List Int) :=
 req (in64 (p10 + 1)) (kb8 p13 (p10 + 1))
def r19_lay_l8 (N : Nat) (a2 : (List Int)) (a0 : DMemory) : Nat → (List Int) → Int → Option (List Int)
 | 0, _, _ => none
 | m8 + 1, p9, p10 => bif decide (p10 < (a2.length : Int)) then ((getE a2 p10).bind fun x14 => (r19_Has_O N a0 x14).bind fun y15 => (bif y15 then ((getE a2 p10).bind fun x17 => (r19_In_O N p9 x17).bind fun y18 => some (!y18)) else (some false)).bind fun b16 => bif b16 then ((getE a2 p10).bind fun x20 => req (fitsL (p9.length + ([x20] : List Int).length)) (r19_lay_j12 N (r19_lay_l8 N a2 a0 m8) p10 a2 a0 (p9 ++ ([x20] : List Int)))) else (r19_lay_j12 N (r19_lay_l8 N a2 a0 m8) p10 a2 a0 p9)) else (r19_lay_j6 N p9)
theorem r19_lay_l8_s {N m8 : Nat} {a2 : (List Int)} {a0 : DMemory} {p9 : (List Int)} {p10 : Int} : r19_lay_l8 N a2 a0 (m8 + 1) p9 p10 = bif decide (p10 < (a2.length : Int)) then ((getE a2 p10).bind fun x14 => (r19_Has_O N a0 x14).bind fun y15 => (bif y15 then ((getE a2 p10).bind fun x17 => (r19_In_O N p9 x17).bind fun y18 => some (!y18)) else (some false)).bind fun b16 => bif b16 then ((getE a2 p10).bind fun x20 => req (fitsL (p9.length + ([x20] : List Int).length)) (r19_lay_j12 N (r19_lay_l8 N a2 a0 m8) p10 a2 a0 (p9 ++ ([x20] : List Int)))) else (r19_lay_j12 N (r19_lay_l8 N a2 a0 m8) p10 a2 a0 p9)) else (r19_lay_j6 N p9) := rfl
def r19_lay_O (N : Nat) (a0 : DMemory) (a1 : (List Int)) (a2 : (List Int)) : Option (List Int) :=
 r19_lay_l8 N a2 a0 N a1 0
def r19_through_j5 (N : Nat) (p6 : (List Int)) : Option (List Int) :=
 some p6
def r19_through_l7 (N : Nat) (a0 : DMemory) : Nat → (List Int) → Int → Option (List Int)
 | 0, _, _ => none
 | m7 + 1, p8, p9 => bif decide (p9 < (p8.length : Int)) then ((getE p8 p9).bind fun x11 => (r19_At_O N a0 x11).bind fun y12 => (r15_Leads_O N y12).bind fun y17 => (r19_lay_O N a0 p8 y17).bind fun y20 => req (in64 (p9 + 1)) ((r19_through_l7 N a0 m7) y20 (p9 + 1))) else (r19_through_j5 N p8)
theorem r19_through_l7_s {N m7 : Nat} {a0 : DMemory} {p8 : (List Int)} {p9 : Int} : r19_through_l7 N a0 (m7 + 1) p8 p9 = bif decide (p9 < (p8.length : Int)) then ((getE p8 p9).bind fun x11 => (r19_At_O N a0 x11).bind fun y12 => (r15_Leads_O N y12).bind fun y17 => (r19_lay_O N a0 p8 y17).bind fun y20 => req (in64 (p9 + 1)) ((r19_through_l7 N a0 m7) y20 (p9 + 1))) else (r19_through_j5 N p8) := rfl
def r19_through_O (N : Nat) (a0 : DMemory) (a1 : (List Int)) (a2 : Int) : Option (List Int) :=
 r19_through_l7 N a0 N a1 a2
def r19_rising_j5 (N : Nat) (p6 : (List Int)) : Option (List Int) :=
 some p6
def r19_rising_j11 (N : Nat) (kb7 : (List Int) → Int → Option (List Int)) (p9 : Int) (p12 : (List Int)) : Option (List Int) :=
 req (in64 (p9 + 1)) (kb7 p12 (p9 + 1))
def r19_rising_l13 (N : Nat) (kb7 : (List Int) → Int → Option (List Int)) (p9 : Int) : Nat → (List Int) → Int → Option (List Int)
 | 0, _, _ => none
 | m13 + 1, p14, p15 => (bif decide (0 < p15) then (req (in64 (p15 - 1)) ((getE p14 (p15 - 1)).bind fun x18 => (getE p14 p15).bind fun x19 => some (decide (x19 < x18)))) else (some false)).bind fun b16 => bif b16 then ((getE p14 p15).bind fun x21 => req (in64 (p15 - 1)) ((getE p14 (p15 - 1)).bind fun x23 => (getE p14 p15).bind fun x24 => req (in64 (p15 - 1)) ((getE (List.set p14 p15.toNat x23) (p15 - 1)).bind fun x26 => req (in64 (p15 - 1)) ((r19_rising_l13 N kb7 p9 m13) (List.set (List.set p14 p15.toNat x23) ((p15 - 1).toNat) x21) (p15 - 1))))) else (r19_rising_j11 N kb7 p9 p14)
theorem r19_rising_l13_s {N m13 : Nat} {kb7 : (List Int) → Int → Option (List Int)} {p9 : Int} {p14 : (List Int)} {p15 : Int} : r19_rising_l13 N kb7 p9 (m13 + 1) p14 p15 = (bif decide (0 < p15) then (req (in64 (p15 - 1)) ((getE p14 (p15 - 1)).bind fun x18 => (getE p14 p15).bind fun x19 => some (decide (x19 < x18)))) else (some false)).bind fun b16 => bif b16 then ((getE p14 p15).bind fun x21 => req (in64 (p15 - 1)) ((getE p14 (p15 - 1)).bind fun x23 => (getE p14 p15).bind fun x24 => req (in64 (p15 - 1)) ((getE (List.set p14 p15.toNat x23) (p15 - 1)).bind fun x26 => req (in64 (p15 - 1)) ((r19_rising_l13 N kb7 p9 m13) (List.set (List.set p14 p15.toNat x23) ((p15 - 1).toNat) x21) (p15 - 1))))) else (r19_rising_j11 N kb7 p9 p14) := rfl
def r19_rising_l7 (N : Nat) : Nat → (List Int) → Int → Option (List Int)
 | 0, _, _ => none
 | m7 + 1, p8, p9 => bif decide (p9 < (p8.length : Int)) then (r19_rising_l13 N (r19_rising_l7 N m7) p9 N p8 p9) else (r19_rising_j5 N p8)
theorem r19_rising_l7_s {N m7 : Nat} {p8 : (List Int)} {p9 : Int} : r19_rising_l7 N (m7 + 1) p8 p9 = bif decide (p9 < (p8.length : Int)) then (r19_rising_l13 N (r19_rising_l7 N m7) p9 N p8 p9) else (r19_rising_j5 N p8) := rfl
def r19_rising_O (N : Nat) (a0 : (List Int)) : Option (List Int) :=
 req (fitsL (([] : List Int).length + a0.length)) (r19_rising_l7 N N (([] : List Int) ++ a0) 1)
def r17_Is_O (N : Nat) (a0 : DCell) : Option Bool :=
 (bif decide (a0.Kind = 8) then ((r15_Right_O N a0).bind fun y5 => some y5) else (some false)).bind fun b4 => some b4
def r17_In_j2 (N : Nat) : Option Bool :=
 some false
def r17_In_l3 (N : Nat) (a0 : Int) (a1 : (List Int)) : Nat → Int → Option Bool
 | 0, _ => none
 | m3 + 1, p4 => bif decide (p4 < (a1.length : Int)) then ((getE a1 p4).bind fun x6 => bif decide (x6 = a0) then (some true) else (req (in64 (p4 + 1)) ((r17_In_l3 N a0 a1 m3) (p4 + 1)))) else (r17_In_j2 N)
theorem r17_In_l3_s {N m3 : Nat} {a0 : Int} {a1 : (List Int)} {p4 : Int} : r17_In_l3 N a0 a1 (m3 + 1) p4 = bif decide (p4 < (a1.length : Int)) then ((getE a1 p4).bind fun x6 => bif decide (x6 = a0) then (some true) else (req (in64 (p4 + 1)) ((r17_In_l3 N a0 a1 m3) (p4 + 1)))) else (r17_In_j2 N) := rfl
def r17_In_O (N : Nat) (a0 : Int) (a1 : (List Int)) : Option Bool :=
 r17_In_l3 N a0 a1 N 0
theorem r17_In_ok {N : Nat} {a0 : Int} {a1 : (List Int)} {r : Bool} (h : r17_In_O N a0 a1 = some r) {A1 : Option Addr} {n1 c1 : Nat} : Okc Tryz.prog 42 [iV a0, .slice A1 n1 c1] ([kS5 A1 n1 c1 a1]) (fun (u : Value) (post : List Chunk) => u = .bool r ∧ post = []) := by
 refine ok_E Tryz.func42 rfl rfl ?_
 simp only [envOf]
 refine run ?_
 refine G_joinF (fun s L => r17_In_j2 N = some r ∧ s = [(4, .bool false)] ∧ L = []) ?_ ?_
 ·refine run ?_
  refine G_loopF (fun m s L => ∃ (p4 : Int), r17_In_l3 N a0 a1 m p4 = some r ∧ s = [(0, iV a0), (1, .slice A1 n1 c1), (4, .bool false), (5, iV p4)] ∧ L = [kS5 A1 n1 c1 a1]) N _ _ ⟨0, h, rfl, rfl⟩ sA (cv_sel [0] 1 rfl rfl) ?_
  rintro (_ | m3) _ _ ⟨p4, h, rfl, rfl⟩
  ·exact none_some h
  rw [r17_In_l3_s] at h
  refine G_seq ?_
  refine run ?_
  refine gR (rd_len 0 rfl els_sl rfl Tryz.underlying35) ?_
  refine run ?_
  refine G_cond rfl (fun g5 => ?_) (fun g5 => ?_)
  ·replace h := cond_t g5 h
   refine run ?_
   refine G_seq ?_
   refine run ?_
   obtain ⟨x6, hx6, h⟩ := bind_elim h
   obtain ⟨lx6, ux6, hx6⟩ := getE_elim hx6
   refine gR (rd_idx 0 rfl els_sl rfl rfl Tryz.underlying35 size3 lx6 ux6) ?_
   refine gR (rd_elem1 (u := iV x6) 0 rfl els_sl rfl hx6 one3 (fun _ _ _ h => by rw [show _ = _ from h]; rfl)) ?_
   refine run ?_
   refine G_cond rfl (fun g7 => ?_) (fun g7 => ?_)
   ·replace h := cond_t g7 h
    refine run ?_
    obtain rfl := Option.some.inj h
    exact endG1 rfl rfl (cv_sel [] 1 rfl rfl) ⟨rfl, rfl⟩
   ·replace h := cond_f g7 h
    refine run ?_
    obtain ⟨q8, h⟩ := req_elim h
    refine gE (ev_add rfl rfl q8.1 q8.2) ?_
    refine run ?_
    exact ⟨m3, _, _, Nat.lt_succ_self _, ⟨p4 + 1, h, rfl, rfl⟩, sA, cv_sel [0] 1 rfl rfl⟩
  ·replace h := cond_f g5 h
   refine run ?_
   exact ⟨_, _, ⟨h, rfl, rfl⟩, sA, cv_sel [] 1 rfl rfl⟩
 ·rintro _ _ ⟨h, rfl, rfl⟩
  refine run ?_
  obtain rfl := Option.some.inj h
  exact endG1 rfl rfl (cv_sel [] 0 rfl rfl) ⟨rfl, rfl⟩
theorem r17_In_free {r : Bool} : ∀ v post, ((fun (u : Value) (post : List Chunk) => u = .bool r ∧ post = [])) v post → ∀ c ∈ post, Free c := by
 rintro _ _ ⟨rfl, rfl⟩; exact mem_nil
def r17_Opens_j5 (N : Nat) (p6 : (List Int)) : Option (List Int) :=
 some p6
def r17_Opens_j14 (N : Nat) (kb7 : (List Int) → Int → Option (List Int)) (p9 : Int) (a1 : (List Int)) (a0 : DCell) (p15 : (List Int)) : Option (List Int) :=
 req (in64 (p9 + 2)) (kb7 p15 (p9 + 2))
def r17_Opens_l7 (N : Nat) (a1 : (List Int)) (a0 : DCell) : Nat → (List Int) → Int → Option (List Int)
 | 0, _, _ => none
 | m7 + 1, p8, p9 => (r17_Is_O N a0).bind fun y11 => (bif y11 then (some (decide (p9 < (a0.More.length : Int)))) else (some false)).bind fun b12 => bif b12 then (req (in64 (p9 + 1)) ((getE a0.More (p9 + 1)).bind fun x17 => (getE a0.More p9).bind fun x19 => (r17_In_O N x19.N a1).bind fun y20 => (bif y20 then ((bif decide (x17.Kind = 7) then (some true) else (some (decide (x17.Kind = 9)))).bind fun b22 => some b22) else (some false)).bind fun b21 => bif b21 then (req (fitsL (p8.length + ([x17.N] : List Int).length)) (r17_Opens_j14 N (r17_Opens_l7 N a1 a0 m7) p9 a1 a0 (p8 ++ ([x17.N] : List Int)))) else (r17_Opens_j14 N (r17_Opens_l7 N a1 a0 m7) p9 a1 a0 p8))) else (r17_Opens_j5 N p8)
theorem r17_Opens_l7_s {N m7 : Nat} {a1 : (List Int)} {a0 : DCell} {p8 : (List Int)} {p9 : Int} : r17_Opens_l7 N a1 a0 (m7 + 1) p8 p9 = (r17_Is_O N a0).bind fun y11 => (bif y11 then (some (decide (p9 < (a0.More.length : Int)))) else (some false)).bind fun b12 => bif b12 then (req (in64 (p9 + 1)) ((getE a0.More (p9 + 1)).bind fun x17 => (getE a0.More p9).bind fun x19 => (r17_In_O N x19.N a1).bind fun y20 => (bif y20 then ((bif decide (x17.Kind = 7) then (some true) else (some (decide (x17.Kind = 9)))).bind fun b22 => some b22) else (some false)).bind fun b21 => bif b21 then (req (fitsL (p8.length + ([x17.N] : List Int).length)) (r17_Opens_j14 N (r17_Opens_l7 N a1 a0 m7) p9 a1 a0 (p8 ++ ([x17.N] : List Int)))) else (r17_Opens_j14 N (r17_Opens_l7 N a1 a0 m7) p9 a1 a0 p8))) else (r17_Opens_j5 N p8) := rfl
def r17_Opens_O (N : Nat) (a0 : DCell) (a1 : (List Int)) : Option (List Int) :=
 r17_Opens_l7 N a1 a0 N [] 0
def r19_Order_j14 (N : Nat) (kb12 : (List Int) → Option (List Int)) (p13 : (List Int)) (a0 : DMemory) (p15 : (List Int)) : Option (List Int) :=
 bif decide ((p15.length : Int) = (p13.length : Int)) then (some p15) else ((r19_through_O N a0 p15 (p13.length : Int)).bind fun y33 => kb12 y33)
def r19_Order_l16 (N : Nat) (kb12 : (List Int) → Option (List Int)) (p13 : (List Int)) (a0 : DMemory) : Nat → (List Int) → Int → Option (List Int)
 | 0, _, _ => none
 | m16 + 1, p17, p18 => bif decide (p18 < (p13.length : Int)) then ((getE p17 p18).bind fun x20 => (r19_At_O N a0 x20).bind fun y21 => (r17_Opens_O N y21 p17).bind fun y26 => (r19_lay_O N a0 p17 y26).bind fun y29 => req (in64 (p18 + 1)) ((r19_Order_l16 N kb12 p13 a0 m16) y29 (p18 + 1))) else (r19_Order_j14 N kb12 p13 a0 p17)
theorem r19_Order_l16_s {N m16 : Nat} {kb12 : (List Int) → Option (List Int)} {p13 : (List Int)} {a0 : DMemory} {p17 : (List Int)} {p18 : Int} : r19_Order_l16 N kb12 p13 a0 (m16 + 1) p17 p18 = bif decide (p18 < (p13.length : Int)) then ((getE p17 p18).bind fun x20 => (r19_At_O N a0 x20).bind fun y21 => (r17_Opens_O N y21 p17).bind fun y26 => (r19_lay_O N a0 p17 y26).bind fun y29 => req (in64 (p18 + 1)) ((r19_Order_l16 N kb12 p13 a0 m16) y29 (p18 + 1))) else (r19_Order_j14 N kb12 p13 a0 p17) := rfl
def r19_Order_l12 (N : Nat) (a0 : DMemory) : Nat → (List Int) → Option (List Int)
 | 0, _ => none
 | m12 + 1, p13 => r19_Order_l16 N (r19_Order_l12 N a0 m12) p13 a0 N p13 0
theorem r19_Order_l12_s {N m12 : Nat} {a0 : DMemory} {p13 : (List Int)} : r19_Order_l12 N a0 (m12 + 1) p13 = r19_Order_l16 N (r19_Order_l12 N a0 m12) p13 a0 N p13 0 := rfl
def r19_Order_O (N : Nat) (a0 : DMemory) (a1 : (List DValue)) : Option (List Int) :=
 (r19_addresses_O N a1).bind fun y5 => (r19_lay_O N a0 ([] : List Int) y5).bind fun y8 => (r19_through_O N a0 y8 0).bind fun y10 => r19_Order_l12 N a0 N y10
def r19_Live_O (N : Nat) (a0 : DMemory) (a1 : (List DValue)) : Option (List Int) :=
 (r19_Order_O N a0 a1).bind fun y5 => (r19_rising_O N y5).bind fun y7 => some y7
end Go.Proofs.YtmbaennilhdieaaGreat
/- Pure functions and contracts of Go functions (printed by all3.py). -/
namespace Go.Proofs.YtmbaennilhdieaaGreat
open Go.RowKit Asn
set_option maxRecDepth 20000
def weak_Clean_c1_O (N : Nat) (a0 : DValue) (a1 : (List Int)) : Option Bool :=
 (slices_Contains_O N a1 a0.N).bind fun y4 => some y4
theorem weak_Clean_c1_ok {N : Nat} {a0 : DValue} {a1 : (List Int)} {r : Bool} (h : weak_Clean_c1_O N a0 a1 = some r) {B1 : Nat} {A2 : Option Addr} {n2 c2 : Nat} : Okc Tryz.prog 134 [.agg #[iV a0.Kind, iV a0.N, .string a0.S], pV B1 0] ([rboxC B1 35 [.slice A2 n2 c2], kS5 A2 n2 c2 a1]) (fun (u : Value) (post : List Chunk) => u = .bool r ∧ post = []) := by
 refine ok_E Tryz.func134 rfl rfl ?_
 simp only [envOf]
 refine run ?_
 refine gD (op_box rfl rfl) ?_
 rintro _ _ ⟨B3, rfl, rfl⟩
 refine run ?_
 refine gR (rd_rbox1 1 rfl rfl one35 rfl) ?_
 refine run ?_
 obtain ⟨y4, hy4, h⟩ := bind_elim h
 refine gD (op_callR (slices_Contains_ok hy4) call101 rfl (mem_cons (lent_ro (i := 2) rfl rfl) mem_nil) slices_Contains_free) ?_
 rintro _ _ ⟨_, ⟨rfl, rfl⟩, rfl⟩
 refine run ?_
 obtain rfl := Option.some.inj h
 exact endG1 rfl rfl (cv_sel [] 3 rfl rfl) ⟨rfl, rfl⟩
def weak_kept_b12 (N : Nat) (ff : DValue → Option Bool) (y6 : (DCell)) (x12 : DValue × DValue) : ((List DValue)) → Option (Option Exit × (List DValue))
 | p13 => (ff x12.1).bind fun y18 => bif y18 then (req (fitsL (p13.length + ([x12.1, x12.2] : List DValue).length)) (some (none, p13 ++ ([x12.1, x12.2] : List DValue)))) else (some (none, p13))
def weak_kept_O (N : Nat) (a0 : DCell) (ff : DValue → Option Bool) : Option DCell :=
 (cell_Copy_O N a0).bind fun y6 => (weak_entries_O N a0).bind fun y10 => (weak_entries_c1_O N a0 (liftR (fun x st => weak_kept_b12 N ff y6 x st)) (none, [])).bind fun y14 => caseX y14.1 (some (⟨y6.Kind, y6.Shape, y6.Flags, y6.Age, y6.Slots, y14.2⟩ : DCell)) none (fun _ => none)
theorem weak_kept_ok {N : Nat} {a0 : DCell} {ff : DValue → Option Bool} {r : DCell} (h : weak_kept_O N a0 ff = some r) {A1 : Option Addr} {n1 c1 : Nat} {A2 : Option Addr} {n2 c2 : Nat} {vf : Value} {G : List Chunk} (hf : FnOk Tryz.prog vf G (fun x => [.agg #[iV x.Kind, iV x.N, .string x.S]]) (fun r => .bool r) ff) : Okc Tryz.prog 133 [.agg #[iV a0.Kind, iV a0.Shape, iV a0.Flags, iV a0.Age, .slice A1 n1 c1, .slice A2 n2 c2], vf] (kS0 A1 n1 c1 a0.Slots :: kS0 A2 n2 c2 a0.More :: G) (fun (u : Value) (post : List Chunk) => ∃ A0 n0 c0 A1 n1 c1, u = .agg #[iV r.Kind, iV r.Shape, iV r.Flags, iV r.Age, .slice A0 n0 c0, .slice A1 n1 c1] ∧ post = [kO3 A0 n0 c0 r.Slots, kO3 A1 n1 c1 r.More]) := by
 refine ok_E Tryz.func133 rfl rfl ?_
 simp only [envOf]
 refine run ?_
 refine gD (op_box rfl rfl) ?_
 rintro _ _ ⟨B3, rfl, rfl⟩
 refine gD (op_box rfl (fn_cells hf)) ?_
 rintro _ _ ⟨B4, rfl, rfl⟩
 refine gD (op_alloc zero32 rfl) ?_
 rintro _ _ ⟨B5, rfl, rfl⟩
 refine run ?_
 refine gR (rd_boxS (us := [iV a0.Kind, iV a0.Shape, iV a0.Flags, iV a0.Age, .slice A1 n1 c1, .slice A2 n2 c2]) 2 rfl rfl agg32 rfl) ?_
 obtain ⟨y6, hy6, h⟩ := bind_elim h
 refine gD (op_callR (cell_Copy_ok hy6) call50 rfl (mem_cons (lent_ro (i := 3) rfl rfl) (mem_cons (lent_ro (i := 4) rfl rfl) mem_nil)) cell_Copy_free) ?_
 rintro _ _ ⟨_, ⟨A7, n7, c7, A8, n8, c8, rfl, rfl⟩, rfl⟩
 refine gD (op_alloc zero32 rfl) ?_
 rintro _ _ ⟨B9, rfl, rfl⟩
 refine gO (op_store (us := [iV y6.Kind, iV y6.Shape, iV y6.Flags, iV y6.Age, .slice A7 n7 c7, .slice A8 n8 c8]) (cs' := [iV y6.Kind, iV y6.Shape, iV y6.Flags, iV y6.Age, .slice A7 n7 c7, .slice A8 n8 c8]) 0 rfl rfl rfl rfl size32 rfl rfl rfl) ?_
 rintro _ _ rfl
 refine run ?_
 refine gO (op_store (us := [.slice none 0 0]) (cs' := [iV y6.Kind, iV y6.Shape, iV y6.Flags, iV y6.Age, .slice A7 n7 c7, .slice none 0 0]) 0 rfl rfl rfl rfl size25 rfl rfl rfl) ?_
 rintro _ _ rfl
 refine run ?_
 refine G_seq ?_
 refine run ?_
 refine gR (rd_boxS (us := [iV a0.Kind, iV a0.Shape, iV a0.Flags, iV a0.Age, .slice A1 n1 c1, .slice A2 n2 c2]) 5 rfl rfl agg32 rfl) ?_
 obtain ⟨y10, hy10, h⟩ := bind_elim h
 refine gD (op_callR (weak_entries_ok hy10) call179 rfl (mem_cons (lent_ro (i := 6) rfl rfl) (mem_cons (lent_ro (i := 7) rfl rfl) mem_nil)) weak_entries_free) ?_
 rintro _ _ ⟨_, ⟨B11, rfl, rfl⟩, rfl⟩
 refine G_nil ?_
 refine nx_n ?_
 refine G_sub ?_ sub_refl (cv_frzbox 0 rfl)
 refine Wq_norm (rboxC B11 32 [iV a0.Kind, iV a0.Shape, iV a0.Flags, iV a0.Age, .slice A1 n1 c1, .slice A2 n2 c2] :: boxC B9 32 [iV y6.Kind, iV y6.Shape, iV y6.Flags, iV y6.Age, .slice A7 n7 c7, .slice none 0 0] :: kO3 A7 n7 c7 y6.Slots :: kO3 A8 n8 c8 y6.More :: boxC B5 32 [iV 0, iV 0, iV 0, iV 0, .slice none 0 0, .slice none 0 0] :: boxC B4 123 [vf] :: boxC B3 32 [iV a0.Kind, iV a0.Shape, iV a0.Flags, iV a0.Age, .slice A1 n1 c1, .slice A2 n2 c2] :: kS0 A1 n1 c1 a0.Slots :: kS0 A2 n2 c2 a0.More :: G) rfl ?_
 obtain ⟨y14, hy14, h⟩ := bind_elim h
 refine G_rangeX (en := (fun x => [.agg #[iV x.1.Kind, iV x.1.N, .string x.1.S], .agg #[iV x.2.Kind, iV x.2.N, .string x.2.S]])) (fun x st => weak_kept_b12 N ff y6 x st) (fun (st : (List DValue)) (mz : ((Option Addr × Nat × Nat))) => [boxC B4 123 [vf], boxC B5 32 [iV 0, iV 0, iV 0, iV 0, .slice none 0 0, .slice none 0 0], kO3 A7 n7 c7 y6.Slots, ownC rDValue 38 (.slice mz.1 mz.2.1 mz.2.2) st, boxC B9 32 [iV y6.Kind, iV y6.Shape, iV y6.Flags, iV y6.Age, .slice A7 n7 c7, .slice mz.1 mz.2.1 mz.2.2]] ++ G) [rboxC B11 32 [iV a0.Kind, iV a0.Shape, iV a0.Flags, iV a0.Age, .slice A1 n1 c1, .slice A2 n2 c2], kS0 A1 n1 c1 a0.Slots, kS0 A2 n2 c2 a0.More] ([]) ((none, 0, 0)) rfl rfl call198 rfl (fun _ => rfl) (fun l G hY => (weak_entries_c1_ok hy14 hY).mono fun _ _ hh => hh.2) ((cv_nil rDValue 38 _).trans (cv_take [1, 8, 9] [] [6, 5, 3, 0, 2] 10 rfl)) h ?_ ?_ ?_ ?_
 ·rintro l x12 p13 je sr12 ⟨A13, n13, c13⟩ h
  replace h : weak_kept_b12 N ff y6 x12 p13 = some (je, sr12) := h
  simp only [envR, List.zip_cons_cons, List.zip_nil_left, List.zip_nil_right, List.reverse_cons, List.reverse_nil, List.nil_append, List.cons_append]
  refine run ?_
  refine gD (op_alloc zero38 rfl) ?_
  rintro _ _ ⟨B16, rfl, rfl⟩
  refine gO (op_store (us := [iV x12.1.Kind, iV x12.1.N, .string x12.1.S]) (cs' := [iV x12.1.Kind, iV x12.1.N, .string x12.1.S]) 0 rfl rfl rfl rfl size38 rfl rfl rfl) ?_
  rintro _ _ rfl
  refine run ?_
  refine gD (op_alloc zero38 rfl) ?_
  rintro _ _ ⟨B17, rfl, rfl⟩
  refine gO (op_store (us := [iV x12.2.Kind, iV x12.2.N, .string x12.2.S]) (cs' := [iV x12.2.Kind, iV x12.2.N, .string x12.2.S]) 0 rfl rfl rfl rfl size38 rfl rfl rfl) ?_
  rintro _ _ rfl
  refine run ?_
  refine gR (rd_boxS (us := [iV x12.1.Kind, iV x12.1.N, .string x12.1.S]) 1 rfl rfl agg38 rfl) ?_
  obtain ⟨y18, hy18, h⟩ := bind_elim h
  refine gD (op_callf (a := x12.1) [boxC B17 38 [iV x12.2.Kind, iV x12.2.N, .string x12.2.S], boxC B16 38 [iV x12.1.Kind, iV x12.1.N, .string x12.1.S], boxC B4 123 [vf], boxC B5 32 [iV 0, iV 0, iV 0, iV 0, .slice none 0 0, .slice none 0 0], kO3 A7 n7 c7 y6.Slots, kO3 A13 n13 c13 p13, boxC B9 32 [iV y6.Kind, iV y6.Shape, iV y6.Flags, iV y6.Age, .slice A7 n7 c7, .slice A13 n13 c13]] hf hy18 rfl rfl) ?_
  rintro _ _ ⟨rfl, rfl⟩
  refine G_norm (boxC B17 38 [iV x12.2.Kind, iV x12.2.N, .string x12.2.S] :: boxC B16 38 [iV x12.1.Kind, iV x12.1.N, .string x12.1.S] :: boxC B4 123 [vf] :: boxC B5 32 [iV 0, iV 0, iV 0, iV 0, .slice none 0 0, .slice none 0 0] :: kO3 A7 n7 c7 y6.Slots :: kO3 A13 n13 c13 p13 :: boxC B9 32 [iV y6.Kind, iV y6.Shape, iV y6.Flags, iV y6.Age, .slice A7 n7 c7, .slice A13 n13 c13] :: G) rfl ?_
  refine run ?_
  refine G_cond rfl (fun g19 => ?_) (fun g19 => ?_)
  ·replace h := cond_t g19 h
   refine run ?_
   refine gR (rd_boxS (us := [iV x12.1.Kind, iV x12.1.N, .string x12.1.S]) 1 rfl rfl agg38 rfl) ?_
   refine gR (rd_boxS (us := [iV x12.2.Kind, iV x12.2.N, .string x12.2.S]) 0 rfl rfl agg38 rfl) ?_
   refine gD (op_bslice (R := rDValue) (vss := [[iV x12.1.Kind, iV x12.1.N, .string x12.1.S], [iV x12.2.Kind, iV x12.2.N, .string x12.2.S]]) (xs := [x12.1, x12.2]) rfl (bsl_25_2 _ _ _ _ _ _) rfl rfl (fun _ _ hr => .cons rfl (.cons rfl All2.nil))) ?_
   rintro _ _ ⟨A20, n20, c20, rfl, rfl⟩
   obtain ⟨q21, h⟩ := req_elim h
   refine gD (op_append 6 0 rfl rfl els_own rfl rfl Tryz.underlying25 zb38 rfl rfl q21) ?_
   rintro _ _ ⟨A22, n22, c22, rfl, rfl⟩
   refine run ?_
   refine gO (op_store (us := [.slice A22 n22 c22]) (cs' := [iV y6.Kind, iV y6.Shape, iV y6.Flags, iV y6.Age, .slice A7 n7 c7, .slice A22 n22 c22]) 7 rfl rfl rfl rfl size25 rfl rfl rfl) ?_
   rintro _ _ rfl
   refine run ?_
   obtain ⟨rfl, rfl⟩ := Prod.mk.inj (Option.some.inj h)
   exact RK_n ((cv_sel [3, 4, 5, 6, 7] 8 rfl rfl).trans (cv_pack1 (A22, n22, c22) rfl))
  ·replace h := cond_f g19 h
   refine run ?_
   obtain ⟨rfl, rfl⟩ := Prod.mk.inj (Option.some.inj h)
   exact RK_n ((cv_sel [2, 3, 4, 5, 6] 7 rfl rfl).trans (cv_pack1 (A13, n13, c13) rfl))
 ·rintro ⟨A13, n13, c13⟩ h
  refine K3_norm (boxC B4 123 [vf] :: boxC B5 32 [iV 0, iV 0, iV 0, iV 0, .slice none 0 0, .slice none 0 0] :: kO3 A7 n7 c7 y6.Slots :: kO3 A13 n13 c13 y14.2 :: boxC B9 32 [iV y6.Kind, iV y6.Shape, iV y6.Flags, iV y6.Age, .slice A7 n7 c7, .slice A13 n13 c13] :: G) rfl ?_
  refine run ?_
  refine gR (rd_boxS (us := [iV y6.Kind, iV y6.Shape, iV y6.Flags, iV y6.Age, .slice A7 n7 c7, .slice A13 n13 c13]) 4 rfl rfl agg32 rfl) ?_
  refine gO (op_store (us := [iV y6.Kind, iV y6.Shape, iV y6.Flags, iV y6.Age, .slice A7 n7 c7, .slice A13 n13 c13]) (cs' := [iV y6.Kind, iV y6.Shape, iV y6.Flags, iV y6.Age, .slice A7 n7 c7, .slice A13 n13 c13]) 1 rfl rfl rfl rfl size32 rfl rfl rfl) ?_
  rintro _ _ rfl
  refine G_norm (boxC B4 123 [vf] :: boxC B5 32 [iV y6.Kind, iV y6.Shape, iV y6.Flags, iV y6.Age, .slice A7 n7 c7, .slice A13 n13 c13] :: kO3 A7 n7 c7 y6.Slots :: kO3 A13 n13 c13 y14.2 :: boxC B9 32 [iV y6.Kind, iV y6.Shape, iV y6.Flags, iV y6.Age, .slice A7 n7 c7, .slice A13 n13 c13] :: G) rfl ?_
  refine run ?_
  obtain rfl := Option.some.inj h
  exact endGl (rs := [.cell 4 32]) (vs := [.agg #[iV y6.Kind, iV y6.Shape, iV y6.Flags, iV y6.Age, .slice A7 n7 c7, .slice A13 n13 c13]]) rfl (.cons (rv_boxS 1 rfl rfl agg32) .nil) rfl (cv_selD [2, 3] 5 rfl rfl) ⟨_, _, _, _, _, _, rfl, rfl⟩
 ·rintro ⟨A13, n13, c13⟩ h
  exact none_some h
 ·rintro i ⟨A13, n13, c13⟩ h
  exact none_some h
theorem weak_kept_free {r : DCell} : ∀ v post, ((fun (u : Value) (post : List Chunk) => ∃ A0 n0 c0 A1 n1 c1, u = .agg #[iV r.Kind, iV r.Shape, iV r.Flags, iV r.Age, .slice A0 n0 c0, .slice A1 n1 c1] ∧ post = [kO3 A0 n0 c0 r.Slots, kO3 A1 n1 c1 r.More])) v post → ∀ c ∈ post, Free c := by
 rintro _ _ ⟨_, _, _, _, _, _, rfl, rfl⟩; exact mem_cons free_own (mem_cons free_own (mem_nil))
def weak_Clean_O (N : Nat) (a0 : DCell) (a1 : (List Int)) : Option DCell :=
 (weak_is_O N a0).bind fun y7 => bif !y7 then (some (⟨0, 0, 0, 0, [], []⟩ : DCell)) else ((weak_kept_O N a0 (fun x => weak_Clean_c1_O N x a1)).bind fun y11 => some y11)
theorem weak_Clean_ok {N : Nat} {a0 : DCell} {a1 : (List Int)} {r : DCell} (h : weak_Clean_O N a0 a1 = some r) {A1 : Option Addr} {n1 c1 : Nat} {A2 : Option Addr} {n2 c2 : Nat} {A3 : Option Addr} {n3 c3 : Nat} : Okc Tryz.prog 80 [.agg #[iV a0.Kind, iV a0.Shape, iV a0.Flags, iV a0.Age, .slice A1 n1 c1, .slice A2 n2 c2], .slice A3 n3 c3] ([kS0 A1 n1 c1 a0.Slots, kS0 A2 n2 c2 a0.More, kS5 A3 n3 c3 a1]) (fun (u : Value) (post : List Chunk) => ∃ A0 n0 c0 A1 n1 c1, u = .agg #[iV r.Kind, iV r.Shape, iV r.Flags, iV r.Age, .slice A0 n0 c0, .slice A1 n1 c1] ∧ post = [kO3 A0 n0 c0 r.Slots, kO3 A1 n1 c1 r.More]) := by
 refine ok_E Tryz.func80 rfl rfl ?_
 simp only [envOf]
 refine run ?_
 refine gD (op_box rfl rfl) ?_
 rintro _ _ ⟨B4, rfl, rfl⟩
 refine gD (op_box rfl rfl) ?_
 rintro _ _ ⟨B5, rfl, rfl⟩
 refine gD (op_alloc zero32 rfl) ?_
 rintro _ _ ⟨B6, rfl, rfl⟩
 refine run ?_
 refine G_seq ?_
 refine run ?_
 refine gR (rd_boxS (us := [iV a0.Kind, iV a0.Shape, iV a0.Flags, iV a0.Age, .slice A1 n1 c1, .slice A2 n2 c2]) 2 rfl rfl agg32 rfl) ?_
 obtain ⟨y7, hy7, h⟩ := bind_elim h
 refine gD (op_callR (weak_is_ok hy7) call132 rfl (mem_cons (lent_ro (i := 3) rfl rfl) (mem_cons (lent_ro (i := 4) rfl rfl) mem_nil)) weak_is_free) ?_
 rintro _ _ ⟨_, ⟨rfl, rfl⟩, rfl⟩
 refine run ?_
 refine G_cond rfl (fun g8 => ?_) (fun g8 => ?_)
 ·replace h := cond_t g8 h
  refine run ?_
  refine gE (ev_build rfl (bld_32_)) ?_
  refine gO (op_store (us := [iV 0, iV 0, iV 0, iV 0, .slice none 0 0, .slice none 0 0]) (cs' := [iV 0, iV 0, iV 0, iV 0, .slice none 0 0, .slice none 0 0]) 0 rfl rfl rfl rfl size32 rfl rfl rfl) ?_
  rintro _ _ rfl
  refine run ?_
  obtain rfl := Option.some.inj h
  exact endGl (rs := [.cell 4 32]) (vs := [.agg #[iV 0, iV 0, iV 0, iV 0, .slice none 0 0, .slice none 0 0]]) rfl (.cons (rv_boxS 0 rfl rfl agg32) .nil) rfl ((cv_nil rDValue 38 _).trans ((cv_nil rDValue 38 _).trans (cv_sel [1, 0] 8 rfl rfl))) ⟨_, _, _, _, _, _, rfl, rfl⟩
 ·replace h := cond_f g8 h
  refine run ?_
  refine gR (rd_boxS (us := [iV a0.Kind, iV a0.Shape, iV a0.Flags, iV a0.Age, .slice A1 n1 c1, .slice A2 n2 c2]) 2 rfl rfl agg32 rfl) ?_
  refine gE (ev_makeFunc rfl) ?_
  obtain ⟨y11, hy11, h⟩ := bind_elim h
  refine gD (op_callR (weak_kept_ok hy11 ⟨mem_cons rfl (mem_cons rfl mem_nil), 134, #[], #[pV B5 0], rfl, call134, fun _ _ hh => weak_Clean_c1_ok hh⟩) call133 rfl (mem_cons (lent_ro (i := 3) rfl rfl) (mem_cons (lent_ro (i := 4) rfl rfl) (mem_cons (lent_box (i := 1) rfl) (mem_cons (lent_ro (i := 5) rfl rfl) mem_nil)))) weak_kept_free) ?_
  rintro _ _ ⟨_, ⟨A12, n12, c12, A13, n13, c13, rfl, rfl⟩, rfl⟩
  refine gO (op_store (us := [iV y11.Kind, iV y11.Shape, iV y11.Flags, iV y11.Age, .slice A12 n12 c12, .slice A13 n13 c13]) (cs' := [iV y11.Kind, iV y11.Shape, iV y11.Flags, iV y11.Age, .slice A12 n12 c12, .slice A13 n13 c13]) 2 rfl rfl rfl rfl size32 rfl rfl rfl) ?_
  rintro _ _ rfl
  refine run ?_
  obtain rfl := Option.some.inj h
  exact endGl (rs := [.cell 4 32]) (vs := [.agg #[iV y11.Kind, iV y11.Shape, iV y11.Flags, iV y11.Age, .slice A12 n12 c12, .slice A13 n13 c13]]) rfl (.cons (rv_boxS 2 rfl rfl agg32) .nil) rfl (cv_sel [0, 1] 8 rfl rfl) ⟨_, _, _, _, _, _, rfl, rfl⟩
theorem weak_Clean_free {r : DCell} : ∀ v post, ((fun (u : Value) (post : List Chunk) => ∃ A0 n0 c0 A1 n1 c1, u = .agg #[iV r.Kind, iV r.Shape, iV r.Flags, iV r.Age, .slice A0 n0 c0, .slice A1 n1 c1] ∧ post = [kO3 A0 n0 c0 r.Slots, kO3 A1 n1 c1 r.More])) v post → ∀ c ∈ post, Free c := by
 rintro _ _ ⟨_, _, _, _, _, _, rfl, rfl⟩; exact mem_cons free_own (mem_cons free_own (mem_nil))
end Go.Proofs.YtmbaennilhdieaaGreat
/- Pure functions and contracts of Go functions (printed by all3.py). -/
namespace Go.Proofs.YtmbaennilhdieaaGreat
open Go.RowKit Asn
set_option maxRecDepth 20000
end Go.Proofs.YtmbaennilhdieaaGreat
/- Pure functions and contracts of Go functions (printed by all3.py). -/
namespace Go.Proofs.YtmbaennilhdieaaGreat
open Go.RowKit Asn
set_option maxRecDepth 20000
def finreg_is_O (N : Nat) (a0 : DCell) : Option Bool :=
 (bif decide (a0.Kind = 10) then ((cell_Right_O N a0).bind fun y5 => some y5) else (some false)).bind fun b4 => some b4
theorem finreg_is_ok {N : Nat} {a0 : DCell} {r : Bool} (h : finreg_is_O N a0 = some r) {A1 : Option Addr} {n1 c1 : Nat} {A2 : Option Addr} {n2 c2 : Nat} : Okc Tryz.prog 135 [.agg #[iV a0.Kind, iV a0.Shape, iV a0.Flags, iV a0.Age, .slice A1 n1 c1, .slice A2 n2 c2]] ([kS0 A1 n1 c1 a0.Slots, kS0 A2 n2 c2 a0.More]) (fun (u : Value) (post : List Chunk) => u = .bool r ∧ post = []) := by
 refine ok_E Tryz.func135 rfl rfl ?_
 simp only [envOf]
 refine run ?_
 refine gD (op_box rfl rfl) ?_
 rintro _ _ ⟨B3, rfl, rfl⟩
 refine run ?_
 obtain ⟨b4, hb4, h⟩ := bind_elim h
 refine G_segb 3 9 b4 ?_ ?_
 ·clear h
  refine G_case 6 rfl (fun g4 => ?_) (fun g4 => ?_)
  ·have h := cond_t g4 hb4
   refine G_rd (rd_boxS (us := [iV a0.Kind, iV a0.Shape, iV a0.Flags, iV a0.Age, .slice A1 n1 c1, .slice A2 n2 c2]) 0 rfl rfl agg32 rfl) rfl (g_tt g4 rfl) rfl ?_
   obtain ⟨y5, hy5, h⟩ := bind_elim h
   refine G_opd (op_callR (cell_Right_ok hy5) call53 rfl (mem_cons (lent_ro (i := 1) rfl rfl) (mem_cons (lent_ro (i := 2) rfl rfl) mem_nil)) cell_Right_free) rfl (g_tt g4 rfl) rfl ?_
   rintro _ _ ⟨_, ⟨rfl, rfl⟩, rfl⟩
   refine run ?_
   obtain rfl := Option.some.inj h
   exact G_joined sA (cv_sel [0, 1, 2] 3 rfl rfl)
  ·have h := cond_f g4 hb4
   refine run ?_
   obtain rfl := Option.some.inj h
   exact G_joined sA (cv_sel [0, 1, 2] 3 rfl rfl)
 refine run ?_
 obtain rfl := Option.some.inj h
 exact endG1 rfl rfl (cv_sel [] 3 rfl rfl) ⟨rfl, rfl⟩
theorem finreg_is_free {r : Bool} : ∀ v post, ((fun (u : Value) (post : List Chunk) => u = .bool r ∧ post = [])) v post → ∀ c ∈ post, Free c := by
 rintro _ _ ⟨rfl, rfl⟩; exact mem_nil
def finreg_bare_O (N : Nat) (a0 : DCell) : Option DCell :=
 (slices_Clone_O N a0.Slots).bind fun y5 => (getE a0.More 0).bind fun x7 => some (⟨a0.Kind, a0.Shape, a0.Flags, a0.Age, y5, ([x7] : List DValue)⟩ : DCell)
theorem finreg_bare_ok {N : Nat} {a0 : DCell} {r : DCell} (h : finreg_bare_O N a0 = some r) {A1 : Option Addr} {n1 c1 : Nat} {A2 : Option Addr} {n2 c2 : Nat} : Okc Tryz.prog 136 [.agg #[iV a0.Kind, iV a0.Shape, iV a0.Flags, iV a0.Age, .slice A1 n1 c1, .slice A2 n2 c2]] ([kS0 A1 n1 c1 a0.Slots, kS0 A2 n2 c2 a0.More]) (fun (u : Value) (post : List Chunk) => ∃ A0 n0 c0 A1 n1 c1, u = .agg #[iV r.Kind, iV r.Shape, iV r.Flags, iV r.Age, .slice A0 n0 c0, .slice A1 n1 c1] ∧ post = [kO3 A0 n0 c0 r.Slots, kO3 A1 n1 c1 r.More]) := by
 refine ok_E Tryz.func136 rfl rfl ?_
 simp only [envOf]
 refine run ?_
 refine gD (op_box rfl rfl) ?_
 rintro _ _ ⟨B3, rfl, rfl⟩
 refine gD (op_alloc zero32 rfl) ?_
 rintro _ _ ⟨B4, rfl, rfl⟩
 refine run ?_
 obtain ⟨y5, hy5, h⟩ := bind_elim h
 refine gD (op_callR (slices_Clone_ok hy5) call108 rfl (mem_cons (lent_ro (i := 2) rfl rfl) mem_nil) slices_Clone_free) ?_
 rintro _ _ ⟨_, ⟨A6, n6, c6, rfl, rfl⟩, rfl⟩
 refine run ?_
 refine gO (op_store (us := [.slice A6 n6 c6]) (cs' := [iV a0.Kind, iV a0.Shape, iV a0.Flags, iV a0.Age, .slice A6 n6 c6, .slice A2 n2 c2]) 2 rfl rfl rfl rfl size25 rfl rfl rfl) ?_
 rintro _ _ rfl
 refine run ?_
 obtain ⟨x7, hx7, h⟩ := bind_elim h
 obtain ⟨lx7, ux7, hx7⟩ := getE_elim hx7
 refine gR (rd_idx 4 rfl els_sl rfl rfl Tryz.underlying25 size38 lx7 ux7) ?_
 refine gR (rd_elemS (us := [iV x7.Kind, iV x7.N, .string x7.S]) 4 rfl els_sl rfl hx7 agg38 (fun _ _ _ h => by rw [show _ = _ from h]; rfl)) ?_
 refine gD (op_bslice (R := rDValue) (vss := [[iV x7.Kind, iV x7.N, .string x7.S]]) (xs := [x7]) rfl (bsl_25_1 _ _ _) rfl rfl (fun _ _ hr => .cons rfl All2.nil)) ?_
 rintro _ _ ⟨A8, n8, c8, rfl, rfl⟩
 refine run ?_
 refine gO (op_store (us := [.slice A8 n8 c8]) (cs' := [iV a0.Kind, iV a0.Shape, iV a0.Flags, iV a0.Age, .slice A6 n6 c6, .slice A8 n8 c8]) 3 rfl rfl rfl rfl size25 rfl rfl rfl) ?_
 rintro _ _ rfl
 refine run ?_
 refine gR (rd_boxS (us := [iV a0.Kind, iV a0.Shape, iV a0.Flags, iV a0.Age, .slice A6 n6 c6, .slice A8 n8 c8]) 3 rfl rfl agg32 rfl) ?_
 refine gO (op_store (us := [iV a0.Kind, iV a0.Shape, iV a0.Flags, iV a0.Age, .slice A6 n6 c6, .slice A8 n8 c8]) (cs' := [iV a0.Kind, iV a0.Shape, iV a0.Flags, iV a0.Age, .slice A6 n6 c6, .slice A8 n8 c8]) 2 rfl rfl rfl rfl size32 rfl rfl rfl) ?_
 rintro _ _ rfl
 refine G_norm ([kO3 A8 n8 c8 ([x7] : List DValue), kO3 A6 n6 c6 y5, boxC B4 32 [iV a0.Kind, iV a0.Shape, iV a0.Flags, iV a0.Age, .slice A6 n6 c6, .slice A8 n8 c8], boxC B3 32 [iV a0.Kind, iV a0.Shape, iV a0.Flags, iV a0.Age, .slice A6 n6 c6, .slice A8 n8 c8], kS0 A1 n1 c1 a0.Slots, kS0 A2 n2 c2 a0.More]) rfl ?_
 refine run ?_
 obtain rfl := Option.some.inj h
 exact endGl (rs := [.cell 2 32]) (vs := [.agg #[iV a0.Kind, iV a0.Shape, iV a0.Flags, iV a0.Age, .slice A6 n6 c6, .slice A8 n8 c8]]) rfl (.cons (rv_boxS 2 rfl rfl agg32) .nil) rfl (cv_sel [1, 0] 6 rfl rfl) ⟨_, _, _, _, _, _, rfl, rfl⟩
theorem finreg_bare_free {r : DCell} : ∀ v post, ((fun (u : Value) (post : List Chunk) => ∃ A0 n0 c0 A1 n1 c1, u = .agg #[iV r.Kind, iV r.Shape, iV r.Flags, iV r.Age, .slice A0 n0 c0, .slice A1 n1 c1] ∧ post = [kO3 A0 n0 c0 r.Slots, kO3 A1 n1 c1 r.More])) v post → ∀ c ∈ post, Free c := by
 rintro _ _ ⟨_, _, _, _, _, _, rfl, rfl⟩; exact mem_cons free_own (mem_cons free_own (mem_nil))
def finreg_entries_c1_l4 (N : Nat) {σ : Type} (fy : (Int × (List DValue)) → σ → Option (Bool × σ)) (a1 : DCell) : Nat → Int → σ → Option σ
 | 0, _, _ => none
 | m4 + 1, p5, p6 => req (in64 (p5 + 4)) (bif decide (p5 + 4 ≤ (a1.More.length : Int)) then (req (in64 (p5 + 4)) (req (in64 (p5 + 4)) (req ((0 : Int) ≤ p5 ∧ (0 : Int) ≤ p5 + 4 ∧ p5.toNat ≤ (p5 + 4).toNat ∧ (p5 + 4).toNat ≤ a1.More.length) ((fy (p5, (a1.More.drop p5.toNat).take ((p5 + 4).toNat - p5.toNat)) p6).bind fun y13 => bif !y13.1 then (some y13.2) else (req (in64 (p5 + 4)) ((finreg_entries_c1_l4 N fy a1 m4) (p5 + 4) y13.2)))))) else (some p6))
theorem finreg_entries_c1_l4_s {N m4 : Nat} {σ : Type} {fy : (Int × (List DValue)) → σ → Option (Bool × σ)} {a1 : DCell} {p5 : Int} {p6 : σ} : finreg_entries_c1_l4 N fy a1 (m4 + 1) p5 p6 = req (in64 (p5 + 4)) (bif decide (p5 + 4 ≤ (a1.More.length : Int)) then (req (in64 (p5 + 4)) (req (in64 (p5 + 4)) (req ((0 : Int) ≤ p5 ∧ (0 : Int) ≤ p5 + 4 ∧ p5.toNat ≤ (p5 + 4).toNat ∧ (p5 + 4).toNat ≤ a1.More.length) ((fy (p5, (a1.More.drop p5.toNat).take ((p5 + 4).toNat - p5.toNat)) p6).bind fun y13 => bif !y13.1 then (some y13.2) else (req (in64 (p5 + 4)) ((finreg_entries_c1_l4 N fy a1 m4) (p5 + 4) y13.2)))))) else (some p6)) := rfl
def finreg_entries_c1_O (N : Nat) {σ : Type} (a1 : DCell) (fy : (Int × (List DValue)) → σ → Option (Bool × σ)) (s0 : σ) : Option σ :=
 finreg_entries_c1_l4 N fy a1 N 1 s0
theorem finreg_entries_c1_ok {N : Nat} {σ : Type} {a1 : DCell} {fy : (Int × (List DValue)) → σ → Option (Bool × σ)} {s0 : σ} {r : σ} (h : finreg_entries_c1_O N a1 fy s0 = some r) {B1 : Nat} {A2 : Option Addr} {n2 c2 : Nat} {A3 : Option Addr} {n3 c3 : Nat} {l : Nat} {G : σ → List Chunk} (hY : YieldOkR Tryz.prog l G (fun (x : Int × (List DValue)) vs cs => ∃ A1 n1 c1, vs = [iV x.1, .slice A1 n1 c1] ∧ cs = [kS0 A1 n1 c1 x.2]) fy) : Okc Tryz.prog 180 [.func (.yield l) #[] #[], pV B1 0] (rboxC B1 32 [iV a1.Kind, iV a1.Shape, iV a1.Flags, iV a1.Age, .slice A2 n2 c2, .slice A3 n3 c3] :: kS0 A2 n2 c2 a1.Slots :: kS0 A3 n3 c3 a1.More :: (G s0)) (fun (u : Value) (post : List Chunk) => u = .tuple #[] ∧ post = G r) := by
 refine ok_E Tryz.func180 rfl rfl ?_
 simp only [envOf]
 refine run ?_
 refine G_loopF (fun m s L => ∃ (p5 : Int) (p6 : σ), finreg_entries_c1_l4 N fy a1 m p5 p6 = some r ∧ s = [(0, .func (.yield l) #[] #[]), (1, pV B1 0), (3, iV p5)] ∧ L = kS0 A2 n2 c2 a1.Slots :: kS0 A3 n3 c3 a1.More :: rboxC B1 32 [iV a1.Kind, iV a1.Shape, iV a1.Flags, iV a1.Age, .slice A2 n2 c2, .slice A3 n3 c3] :: (G p6)) N _ _ ⟨1, s0, h, rfl, rfl⟩ sA (cv_sel [1, 2, 0] 3 rfl rfl) ?_
 rintro (_ | m4) _ _ ⟨p5, p6, h, rfl, rfl⟩
 ·exact none_some h
 rw [finreg_entries_c1_l4_s] at h
 refine G_seq ?_
 refine run ?_
 obtain ⟨q7, h⟩ := req_elim h
 refine gE (ev_add rfl rfl q7.1 q7.2) ?_
 refine run ?_
 refine gR (rd_rbox1 2 rfl rfl one25 rfl) ?_
 refine gR (rd_len 1 rfl els_sl rfl Tryz.underlying25) ?_
 refine run ?_
 refine G_cond rfl (fun g8 => ?_) (fun g8 => ?_)
 ·replace h := cond_t g8 h
  refine run ?_
  refine G_seq ?_
  refine run ?_
  refine gR (rd_rbox1 2 rfl rfl one25 rfl) ?_
  refine run ?_
  obtain ⟨q9, h⟩ := req_elim h
  refine gE (ev_add rfl rfl q9.1 q9.2) ?_
  refine run ?_
  obtain ⟨q10, h⟩ := req_elim h
  refine gE (ev_add rfl rfl q10.1 q10.2) ?_
  obtain ⟨q11, h⟩ := req_elim h
  refine G_cut3 1 rfl (l := p5.toNat) (h := (p5 + 4).toNat) q11.2.2.1 q11.2.2.2 ?_
  rintro A12 n12 c12 e12
  refine gR (rd_cut3 2 rfl e12 rfl Tryz.underlying25 size38 rfl (by rw [Int.toNat_of_nonneg q11.1]; rfl) (by rw [Int.toNat_of_nonneg q11.2.1]; rfl) (by rw [Int.toNat_of_nonneg q11.2.1]; rfl) q11.2.2.1 q11.2.2.2) ?_
  obtain ⟨y13, hy13, h⟩ := bind_elim h
  refine gD (op_yieldR (a := (p5, (a1.More.drop p5.toNat).take ((p5 + 4).toNat - p5.toNat))) [kS0 A12 n12 c12 ((a1.More.drop p5.toNat).take ((p5 + 4).toNat - p5.toNat)), kS0 A2 n2 c2 a1.Slots, kS0 A3 n3 c3 a1.More, rboxC B1 32 [iV a1.Kind, iV a1.Shape, iV a1.Flags, iV a1.Age, .slice A2 n2 c2, .slice A3 n3 c3]] hY hy13 rfl rfl ⟨_, _, _, rfl, rfl⟩ (cv_dup 0 rfl rfl)) ?_
  rintro _ _ ⟨rfl, rfl⟩
  refine run ?_
  refine G_cond rfl (fun g14 => ?_) (fun g14 => ?_)
  ·replace h := cond_t g14 h
   refine run ?_
   obtain rfl := Option.some.inj h
   exact endG0 rfl (cv_sel [] 4 rfl rfl) ⟨rfl, rfl⟩
  ·replace h := cond_f g14 h
   refine run ?_
   obtain ⟨q15, h⟩ := req_elim h
   refine gE (ev_add rfl rfl q15.1 q15.2) ?_
   refine run ?_
   exact ⟨m4, _, _, Nat.lt_succ_self _, ⟨p5 + 4, y13.2, h, rfl, rfl⟩, sA, cv_sel [1, 2, 3] 4 rfl rfl⟩
 ·replace h := cond_f g8 h
  refine run ?_
  obtain rfl := Option.some.inj h
  exact endG0n rfl (cv_sel [] 3 rfl rfl) ⟨rfl, rfl⟩
def finreg_entries_O (N : Nat) (a0 : DCell) : Option Unit :=
 some ()
theorem finreg_entries_ok {N : Nat} {a0 : DCell} {r : Unit} (h : finreg_entries_O N a0 = some r) {A1 : Option Addr} {n1 c1 : Nat} {A2 : Option Addr} {n2 c2 : Nat} : Okc Tryz.prog 137 [.agg #[iV a0.Kind, iV a0.Shape, iV a0.Flags, iV a0.Age, .slice A1 n1 c1, .slice A2 n2 c2]] ([kS0 A1 n1 c1 a0.Slots, kS0 A2 n2 c2 a0.More]) (fun (u : Value) (post : List Chunk) => ∃ B900, u = .func (.func 180) #[] #[pV B900 0] ∧ post = [boxC B900 32 [iV a0.Kind, iV a0.Shape, iV a0.Flags, iV a0.Age, .slice A1 n1 c1, .slice A2 n2 c2]]) := by
 refine ok_E Tryz.func137 rfl rfl ?_
 simp only [envOf]
 refine run ?_
 refine gD (op_box rfl rfl) ?_
 rintro _ _ ⟨B3, rfl, rfl⟩
 refine run ?_
 refine gE (ev_makeFunc rfl) ?_
 refine run ?_
 obtain rfl := Option.some.inj h
 exact endG1 rfl rfl (cv_sel [0] 3 rfl rfl) ⟨_, rfl, rfl⟩
theorem finreg_entries_free {a0 : DCell} {A1 : Option Addr} {n1 : Nat} {c1 : Nat} {A2 : Option Addr} {n2 : Nat} {c2 : Nat} : ∀ v post, ((fun (u : Value) (post : List Chunk) => ∃ B900, u = .func (.func 180) #[] #[pV B900 0] ∧ post = [boxC B900 32 [iV a0.Kind, iV a0.Shape, iV a0.Flags, iV a0.Age, .slice A1 n1 c1, .slice A2 n2 c2]])) v post → ∀ c ∈ post, Free c := by
 rintro _ _ ⟨_, rfl, rfl⟩; exact mem_cons free_box (mem_nil)
def finreg_Clean_j45 (N : Nat) (x28 : (Int × (List DValue))) (a0 : DCell) (p14 : (List (Int × Bool))) (y21 : (DCell)) (p30 : (List DValue)) (p31 : (List DValue)) (p46 : Int) (p47 : Int) (p48 : ByteArray) : Option (Option Exit × (List DValue) × (List DValue)) :=
 (getE x28.2 0).bind fun x51 => (getE x28.2 1).bind fun x52 => (getE x28.2 3).bind fun x53 => req (fitsL (p30.length + ([x51, x52, (⟨p46, p47, p48⟩ : DValue), x53] : List DValue).length)) (some (none, (p30 ++ ([x51, x52, (⟨p46, p47, p48⟩ : DValue), x53] : List DValue), p31)))
def finreg_Clean_b28 (N : Nat) (a0 : DCell) (p14 : (List (Int × Bool))) (y21 : (DCell)) (x28 : Int × (List DValue)) : ((List DValue) × (List DValue)) → Option (Option Exit × ((List DValue) × (List DValue)))
 |(p30, p31) => (getE x28.2 0).bind fun x34 => bif !((lk p14 x34.N).getD false) then ((getE a0.More 0).bind fun x36 => (getE x28.2 1).bind fun x37 => (getE x28.2 3).bind fun x38 => req (fitsL (p31.length + ([x36, x37, x38] : List DValue).length)) (some (none, (p30, p31 ++ ([x36, x37, x38] : List DValue))))) else ((getE x28.2 2).bind fun x43 => (bif decide (x43.Kind = 7) then (some (!((lk p14 x43.N).getD false))) else (some false)).bind fun b49 => bif b49 then (finreg_Clean_j45 N x28 a0 p14 y21 p30 p31 0 0 (⟨#[]⟩)) else (finreg_Clean_j45 N x28 a0 p14 y21 p30 p31 x43.Kind x43.N x43.S))
def finreg_Clean_j13 (N : Nat) (a0 : DCell) (p14 : (List (Int × Bool))) : Option (DCell × (List DValue)) :=
 (finreg_bare_O N a0).bind fun y21 => (finreg_entries_O N a0).bind fun y26 => (finreg_entries_c1_O N a0 (liftR (fun x st => finreg_Clean_b28 N a0 p14 y21 x st)) (none, (y21.More, []))).bind fun y32 => caseX y32.1 (some ((⟨y21.Kind, y21.Shape, y21.Flags, y21.Age, y21.Slots, y32.2.1⟩ : DCell), y32.2.2)) none (fun _ => none)
def finreg_Clean_l15 (N : Nat) (a1 : (List Int)) (a0 : DCell) : Nat → Int → (List (Int × Bool)) → Option (DCell × (List DValue))
 | 0, _, _ => none
 | m15 + 1, p16, p17 => bif decide (p16 < (a1.length : Int)) then ((getE a1 p16).bind fun x19 => req (in64 (p16 + 1)) ((finreg_Clean_l15 N a1 a0 m15) (p16 + 1) (upL p17 x19 true))) else (finreg_Clean_j13 N a0 p17)
theorem finreg_Clean_l15_s {N m15 : Nat} {a1 : (List Int)} {a0 : DCell} {p16 : Int} {p17 : (List (Int × Bool))} : finreg_Clean_l15 N a1 a0 (m15 + 1) p16 p17 = bif decide (p16 < (a1.length : Int)) then ((getE a1 p16).bind fun x19 => req (in64 (p16 + 1)) ((finreg_Clean_l15 N a1 a0 m15) (p16 + 1) (upL p17 x19 true))) else (finreg_Clean_j13 N a0 p17) := rfl
def finreg_Clean_O (N : Nat) (a0 : DCell) (a1 : (List Int)) : Option (DCell × (List DValue)) :=
 (finreg_is_O N a0).bind fun y6 => bif !y6 then (some ((⟨0, 0, 0, 0, [], []⟩ : DCell), [])) else (finreg_Clean_l15 N a1 a0 N 0 ([] : (List (Int × Bool))))
set_option maxHeartbeats 4000000 in
theorem finreg_Clean_ok {N : Nat} {a0 : DCell} {a1 : (List Int)} {r : (DCell × (List DValue))} (h : finreg_Clean_O N a0 a1 = some r) {A1 : Option Addr} {n1 c1 : Nat} {A2 : Option Addr} {n2 c2 : Nat} {A3 : Option Addr} {n3 c3 : Nat} : Okc Tryz.prog 81 [.agg #[iV a0.Kind, iV a0.Shape, iV a0.Flags, iV a0.Age, .slice A1 n1 c1, .slice A2 n2 c2], .slice A3 n3 c3] ([kS0 A1 n1 c1 a0.Slots, kS0 A2 n2 c2 a0.More, kS5 A3 n3 c3 a1]) (fun (u : Value) (post : List Chunk) => ∃ A0 n0 c0 A1 n1 c1 A2 n2 c2, u = .tuple #[.agg #[iV r.1.Kind, iV r.1.Shape, iV r.1.Flags, iV r.1.Age, .slice A0 n0 c0, .slice A1 n1 c1], .slice A2 n2 c2] ∧ post = [kO3 A0 n0 c0 r.1.Slots, kO3 A1 n1 c1 r.1.More, kO3 A2 n2 c2 r.2]) := by
 refine ok_E Tryz.func81 rfl rfl ?_
 simp only [envOf]
 refine run ?_
 refine gD (op_box rfl rfl) ?_
 rintro _ _ ⟨B4, rfl, rfl⟩
 refine gD (op_alloc zero32 rfl) ?_
 rintro _ _ ⟨B5, rfl, rfl⟩
 refine run ?_
 refine G_seq ?_
 refine run ?_
 refine gR (rd_boxS (us := [iV a0.Kind, iV a0.Shape, iV a0.Flags, iV a0.Age, .slice A1 n1 c1, .slice A2 n2 c2]) 1 rfl rfl agg32 rfl) ?_
 obtain ⟨y6, hy6, h⟩ := bind_elim h
 refine gD (op_callR (finreg_is_ok hy6) call135 rfl (mem_cons (lent_ro (i := 2) rfl rfl) (mem_cons (lent_ro (i := 3) rfl rfl) mem_nil)) finreg_is_free) ?_
 rintro _ _ ⟨_, ⟨rfl, rfl⟩, rfl⟩
 refine run ?_
 refine G_cond rfl (fun g7 => ?_) (fun g7 => ?_)
 ·replace h := cond_t g7 h
  refine run ?_
  refine gE (ev_build rfl (bld_32_)) ?_
  refine gO (op_store (us := [iV 0, iV 0, iV 0, iV 0, .slice none 0 0, .slice none 0 0]) (cs' := [iV 0, iV 0, iV 0, iV 0, .slice none 0 0, .slice none 0 0]) 0 rfl rfl rfl rfl size32 rfl rfl rfl) ?_
  rintro _ _ rfl
  refine run ?_
  obtain rfl := Option.some.inj h
  exact endGl (rs := [.cell 4 32, .tmp 5]) (vs := [.agg #[iV 0, iV 0, iV 0, iV 0, .slice none 0 0, .slice none 0 0], .slice none 0 0]) rfl (.cons (rv_boxS 0 rfl rfl agg32) (.cons (rv_tmp rfl) .nil)) rfl ((cv_nil rDValue 38 _).trans ((cv_nil rDValue 38 _).trans ((cv_nil rDValue 38 _).trans (cv_sel [2, 1, 0] 8 rfl rfl)))) ⟨_, _, _, _, _, _, _, _, _, rfl, rfl⟩
 ·replace h := cond_f g7 h
  refine run ?_
  refine gR (rd_len 4 rfl els_sl rfl Tryz.underlying35) ?_
  refine gD (op_makeMapN (ek := ekI) (ev := evB) rfl Tryz.underlying107) ?_
  rintro _ _ ⟨M11, rfl, rfl⟩
  refine gD (op_alloc zero107 rfl) ?_
  rintro _ _ ⟨B12, rfl, rfl⟩
  refine gO (op_store (us := [.map (some M11)]) (cs' := [.map (some M11)]) 0 rfl rfl rfl rfl size107 rfl rfl rfl) ?_
  rintro _ _ rfl
  refine run ?_
  refine G_joinF (fun s L => ∃ (p14 : (List (Int × Bool))), finreg_Clean_j13 N a0 p14 = some r ∧ s = [(2, pV B4 0), (4, pV B5 0), (5, .slice none 0 0), (6, pV B12 0)] ∧ L = [kS0 A1 n1 c1 a0.Slots, kS0 A2 n2 c2 a0.More, boxC B4 32 [iV a0.Kind, iV a0.Shape, iV a0.Flags, iV a0.Age, .slice A1 n1 c1, .slice A2 n2 c2], boxC B5 32 [iV 0, iV 0, iV 0, iV 0, .slice none 0 0, .slice none 0 0], mapC ekI evB M11 p14, boxC B12 107 [.map (some M11)]]) ?_ ?_
  ·refine run ?_
   refine gR (rd_len 6 rfl els_sl rfl Tryz.underlying35) ?_
   refine run ?_
   refine G_loopF (fun m s L => ∃ (p16 : Int) (p17 : (List (Int × Bool))), finreg_Clean_l15 N a1 a0 m p16 p17 = some r ∧ s = [(2, pV B4 0), (4, pV B5 0), (5, .slice none 0 0), (6, pV B12 0), (21, .slice A3 n3 c3), (22, iV (a1.length : Int)), (23, iV p16)] ∧ L = [kS5 A3 n3 c3 a1, kS0 A1 n1 c1 a0.Slots, kS0 A2 n2 c2 a0.More, boxC B4 32 [iV a0.Kind, iV a0.Shape, iV a0.Flags, iV a0.Age, .slice A1 n1 c1, .slice A2 n2 c2], boxC B5 32 [iV 0, iV 0, iV 0, iV 0, .slice none 0 0, .slice none 0 0], mapC ekI evB M11 p17, boxC B12 107 [.map (some M11)]]) N _ _ ⟨0, ([] : (List (Int × Bool))), h, rfl, rfl⟩ sA (cv_sel [6, 4, 5, 3, 2, 1, 0] 7 rfl rfl) ?_
   rintro (_ | m15) _ _ ⟨p16, p17, h, rfl, rfl⟩
   ·exact none_some h
   rw [finreg_Clean_l15_s] at h
   refine run ?_
   refine G_seq ?_
   refine G_cond rfl (fun g18 => ?_) (fun g18 => ?_)
   ·replace h := cond_t g18 h
    refine run ?_
    refine G_seq ?_
    refine run ?_
    obtain ⟨x19, hx19, h⟩ := bind_elim h
    obtain ⟨lx19, ux19, hx19⟩ := getE_elim hx19
    refine gR (rd_idx 0 rfl els_sl rfl rfl Tryz.underlying35 size3 lx19 ux19) ?_
    refine gR (rd_elem1 (u := iV x19) 0 rfl els_sl rfl hx19 one3 (fun _ _ _ h => by rw [show _ = _ from h]; rfl)) ?_
    refine run ?_
    refine gO (op_mapUpdate (a := x19) (b := true) 5 rfl rfl rfl rfl Tryz.underlying107 (keyOk_int Tryz.underlying3)) ?_
    rintro _ _ rfl
    refine G_norm ([kS5 A3 n3 c3 a1, kS0 A1 n1 c1 a0.Slots, kS0 A2 n2 c2 a0.More, boxC B4 32 [iV a0.Kind, iV a0.Shape, iV a0.Flags, iV a0.Age, .slice A1 n1 c1, .slice A2 n2 c2], boxC B5 32 [iV 0, iV 0, iV 0, iV 0, .slice none 0 0, .slice none 0 0], mapC ekI evB M11 (upL p17 x19 true), boxC B12 107 [.map (some M11)]]) rfl ?_
    refine run ?_
    obtain ⟨q20, h⟩ := req_elim h
    refine gE (ev_add rfl rfl q20.1 q20.2) ?_
    refine run ?_
    exact ⟨m15, _, _, Nat.lt_succ_self _, ⟨p16 + 1, upL p17 x19 true, h, rfl, rfl⟩, sA, cv_sel [0, 1, 2, 3, 4, 5, 6] 7 rfl rfl⟩
   ·replace h := cond_f g18 h
    refine run ?_
    exact ⟨_, _, ⟨p17, h, rfl, rfl⟩, sA, cv_sel [1, 2, 3, 4, 5, 6] 7 rfl rfl⟩
  ·rintro _ _ ⟨p14, h, rfl, rfl⟩
   refine run ?_
   refine gR (rd_boxS (us := [iV a0.Kind, iV a0.Shape, iV a0.Flags, iV a0.Age, .slice A1 n1 c1, .slice A2 n2 c2]) 2 rfl rfl agg32 rfl) ?_
   obtain ⟨y21, hy21, h⟩ := bind_elim h
   refine gD (op_callR (finreg_bare_ok hy21) call136 rfl (mem_cons (lent_ro (i := 0) rfl rfl) (mem_cons (lent_ro (i := 1) rfl rfl) mem_nil)) finreg_bare_free) ?_
   rintro _ _ ⟨_, ⟨A22, n22, c22, A23, n23, c23, rfl, rfl⟩, rfl⟩
   refine gD (op_alloc zero32 rfl) ?_
   rintro _ _ ⟨B24, rfl, rfl⟩
   refine gO (op_store (us := [iV y21.Kind, iV y21.Shape, iV y21.Flags, iV y21.Age, .slice A22 n22 c22, .slice A23 n23 c23]) (cs' := [iV y21.Kind, iV y21.Shape, iV y21.Flags, iV y21.Age, .slice A22 n22 c22, .slice A23 n23 c23]) 0 rfl rfl rfl rfl size32 rfl rfl rfl) ?_
   rintro _ _ rfl
   refine run ?_
   refine gD (op_alloc zero25 rfl) ?_
   rintro _ _ ⟨B25, rfl, rfl⟩
   refine run ?_
   refine G_seq ?_
   refine run ?_
   refine gR (rd_boxS (us := [iV a0.Kind, iV a0.Shape, iV a0.Flags, iV a0.Age, .slice A1 n1 c1, .slice A2 n2 c2]) 6 rfl rfl agg32 rfl) ?_
   obtain ⟨y26, hy26, h⟩ := bind_elim h
   refine gD (op_callR (finreg_entries_ok hy26) call137 rfl (mem_cons (lent_ro (i := 4) rfl rfl) (mem_cons (lent_ro (i := 5) rfl rfl) mem_nil)) finreg_entries_free) ?_
   rintro _ _ ⟨_, ⟨B27, rfl, rfl⟩, rfl⟩
   refine G_nil ?_
   refine nx_n ?_
   refine G_sub ?_ sub_refl (cv_frzbox 0 rfl)
   obtain ⟨y32, hy32, h⟩ := bind_elim h
   refine G_rangeXR (R := (fun (x : Int × (List DValue)) vs cs => ∃ A1 n1 c1, vs = [iV x.1, .slice A1 n1 c1] ∧ cs = [kS0 A1 n1 c1 x.2])) (fun x st => finreg_Clean_b28 N a0 p14 y21 x st) (fun (st : (List DValue) × (List DValue)) (mz : ((Option Addr × Nat × Nat) × (Option Addr × Nat × Nat))) => [kS0 A1 n1 c1 a0.Slots, kS0 A2 n2 c2 a0.More, boxC B4 32 [iV a0.Kind, iV a0.Shape, iV a0.Flags, iV a0.Age, .slice A1 n1 c1, .slice A2 n2 c2], boxC B5 32 [iV 0, iV 0, iV 0, iV 0, .slice none 0 0, .slice none 0 0], mapC ekI evB M11 p14, boxC B12 107 [.map (some M11)], kO3 A22 n22 c22 y21.Slots, ownC rDValue 38 (.slice mz.1.1 mz.1.2.1 mz.1.2.2) st.1, boxC B24 32 [iV y21.Kind, iV y21.Shape, iV y21.Flags, iV y21.Age, .slice A22 n22 c22, .slice mz.1.1 mz.1.2.1 mz.1.2.2], ownC rDValue 38 (.slice mz.2.1 mz.2.2.1 mz.2.2.2) st.2, boxC B25 25 [.slice mz.2.1 mz.2.2.1 mz.2.2.2]]) [rboxC B27 32 [iV a0.Kind, iV a0.Shape, iV a0.Flags, iV a0.Age, .slice A1 n1 c1, .slice A2 n2 c2], kS0 A1 n1 c1 a0.Slots, kS0 A2 n2 c2 a0.More] ((y21.More, [])) (((A23, n23, c23), (none, 0, 0))) rfl rfl call180 rfl (by rintro _ _ _ ⟨_, _, _, rfl, rfl⟩; rfl) (fun l G hY => (finreg_entries_c1_ok hy32 hY).mono fun _ _ hh => hh.2) ((cv_nil rDValue 38 _).trans (cv_take [1, 6, 7] [] [6, 7, 8, 9, 10, 11, 4, 5, 3, 0, 2] 12 rfl)) h ?_ ?_ ?_ ?_
   ·rintro l x28 ⟨p30, p31⟩ je sr28 ⟨⟨A30, n30, c30⟩, ⟨A31, n31, c31⟩⟩ h _ _ ⟨A29, n29, c29, rfl, rfl⟩
    replace h : finreg_Clean_b28 N a0 p14 y21 x28 (p30, p31) = some (je, sr28) := h
    simp only [envR, List.zip_cons_cons, List.zip_nil_left, List.zip_nil_right, List.reverse_cons, List.reverse_nil, List.nil_append, List.cons_append]
    refine run ?_
    refine G_seq ?_
    refine G_seq ?_
    refine G_drawn (by kernel_rfl) _ (cv_refl _) ?_
    refine T3_rd 0 rfl (by kernel_rfl) (rd_box1 6 rfl rfl one107 rfl) rfl rfl ?_
    refine T3_ev 1 rfl (by kernel_rfl) (ev_move rfl) rfl rfl ?_
    obtain ⟨x34, hx34, h⟩ := bind_elim h
    obtain ⟨lx34, ux34, hx34⟩ := getE_elim hx34
    refine T3_rd 2 rfl (by kernel_rfl) (rd_idx 0 rfl els_sl rfl rfl Tryz.underlying25 size38 lx34 ux34) rfl rfl ?_
    refine T3_rd 3 rfl (by kernel_rfl) (rd_fa 0 rfl els_sl rfl (toNat_lt lx34 ux34) fa_38_1) rfl rfl ?_
    refine T3_rd 4 rfl (by kernel_rfl) (rd_elem1 (u := iV x34.N) 0 rfl els_sl rfl hx34 one3 (fun _ _ _ h => by rw [show _ = _ from h]; rfl)) rfl rfl ?_
    refine T3_rd 5 rfl (by kernel_rfl) (rd_look1 (a := x34.N) (z := false) 5 rfl map_rw rfl rfl Tryz.underlying107 (keyOk_int Tryz.underlying3) zero4) rfl rfl ?_
    refine T3_ev 6 rfl (by kernel_rfl) (ev_not rfl) rfl rfl ?_
    refine T3_done (by kernel_rfl) ?_
    refine nx_n ?_
    refine G_cond rfl (fun g35 => ?_) (fun g35 => ?_)
    ·replace h := cond_t g35 h
     refine G_seq ?_
     obtain ⟨x36, hx36, h⟩ := bind_elim h
     obtain ⟨lx36, ux36, hx36⟩ := getE_elim hx36
     obtain ⟨x37, hx37, h⟩ := bind_elim h
     obtain ⟨lx37, ux37, hx37⟩ := getE_elim hx37
     obtain ⟨x38, hx38, h⟩ := bind_elim h
     obtain ⟨lx38, ux38, hx38⟩ := getE_elim hx38
     refine G_sub (t := [(2, pV B4 0), (4, pV B5 0), (5, .slice none 0 0), (6, pV B12 0), (9, pV B24 0), (10, pV B25 0), (12, .slice A29 n29 c29)]) ?_ subT (cv_refl _)
     refine G_monoX (by kernel_rfl) 12 [] [0, 11] [43, 44, 45, 46, 47, 48, 49, 50, 51, 52, 53, 54] [[], [], [1], [2], [3], [], [5], [6], [], [8], [9], [4, 7, 10]] [aV (.slice A31 n31 c31),
 aV (pV B4 5),
 aV (.slice A2 n2 c2),
 aV (elemQ (.slice A2 n2 c2) ((0 : Int).toNat) 3 0),
 aV (.agg #[iV x36.Kind, iV x36.N, .string x36.S]),
 aV (.slice A29 n29 c29),
 aV (elemQ (.slice A29 n29 c29) ((1 : Int).toNat) 3 0),
 aV (.agg #[iV x37.Kind, iV x37.N, .string x37.S]),
 aV (.slice A29 n29 c29),
 aV (elemQ (.slice A29 n29 c29) ((3 : Int).toNat) 3 0),
 aV (.agg #[iV x38.Kind, iV x38.N, .string x38.S]),
 aX3 (fun (A40 : Option Addr) (n40 c40 : Nat) => .slice A40 n40 c40) (fun A40 n40 c40 => [kO3 A40 n40 c40 ([x36, x37, x38] : List DValue)])] [] (cv_refl _) (qB_nil) (by kernel_rfl) rfl rfl ?_ ?_ ?_
     ·exact qs_nil
     ·refine steps_cons rfl ?_ ?_
      ·refine X_op (op_bslice (R := rDValue) (vss := [[iV x36.Kind, iV x36.N, .string x36.S], [iV x37.Kind, iV x37.N, .string x37.S], [iV x38.Kind, iV x38.N, .string x38.S]]) (xs := [x36, x37, x38]) rfl (bsl_25_3 _ _ _ _ _ _ _ _ _) rfl rfl (fun _ _ hr => .cons rfl (.cons rfl (.cons rfl All2.nil)))) rfl ?_
       rintro _ _ ⟨A39, n39, c39, rfl, rfl⟩
       exact cvp3 A39 n39 c39 (cv_refl _)
      refine steps_cons rfl ?_ ?_
      ·exact X_rd (rd_elemS (us := [iV x38.Kind, iV x38.N, .string x38.S]) 0 rfl els_sl rfl hx38 agg38 (fun _ _ _ h => by rw [show _ = _ from h]; rfl)) rfl (cvpV rfl (cv_refl _))
      refine steps_cons rfl ?_ ?_
      ·exact X_rd (rd_idx 0 rfl els_sl rfl rfl Tryz.underlying25 size38 lx38 ux38) rfl (cvpV rfl (cv_refl _))
      refine steps_cons rfl ?_ ?_
      ·exact X_ev (ev_move rfl) rfl (cvpV rfl (cv_refl _))
      refine steps_cons rfl ?_ ?_
      ·exact X_rd (rd_elemS (us := [iV x37.Kind, iV x37.N, .string x37.S]) 0 rfl els_sl rfl hx37 agg38 (fun _ _ _ h => by rw [show _ = _ from h]; rfl)) rfl (cvpV rfl (cv_refl _))
      refine steps_cons rfl ?_ ?_
      ·exact X_rd (rd_idx 0 rfl els_sl rfl rfl Tryz.underlying25 size38 lx37 ux37) rfl (cvpV rfl (cv_refl _))
      refine steps_cons rfl ?_ ?_
      ·exact X_ev (ev_move rfl) rfl (cvpV rfl (cv_refl _))
      refine steps_cons rfl ?_ ?_
      ·exact X_rd (rd_elemS (us := [iV x36.Kind, iV x36.N, .string x36.S]) 2 rfl els_sl rfl hx36 agg38 (fun _ _ _ h => by rw [show _ = _ from h]; rfl)) rfl (cvpV rfl (cv_refl _))
      refine steps_cons rfl ?_ ?_
      ·exact X_rd (rd_idx 2 rfl els_sl rfl rfl Tryz.underlying25 size38 lx36 ux36) rfl (cvpV rfl (cv_refl _))
      refine steps_cons rfl ?_ ?_
      ·exact X_rd (rd_box1 3 rfl rfl one25 rfl) rfl (cvpV rfl (cv_refl _))
      refine steps_cons rfl ?_ ?_
      ·exact X_ev (ev_fa rfl fa_32_5) rfl (cvpV rfl (cv_refl _))
      refine steps_cons rfl ?_ ?_
      ·exact X_rd (rd_box1 11 rfl rfl one25 rfl) rfl (cvpV rfl (cv_refl _))
      exact steps_nil
     ·intro A40 n40 c40
      refine N_sub (t := [(43, .slice A31 n31 c31), (54, .slice A40 n40 c40), (2, pV B4 0), (4, pV B5 0), (5, .slice none 0 0), (6, pV B12 0), (9, pV B24 0), (10, pV B25 0), (12, .slice A29 n29 c29)]) (L' := [kO3 A40 n40 c40 ([x36, x37, x38] : List DValue), kS0 A29 n29 c29 x28.2, kS0 A1 n1 c1 a0.Slots, kS0 A2 n2 c2 a0.More, boxC B4 32 [iV a0.Kind, iV a0.Shape, iV a0.Flags, iV a0.Age, .slice A1 n1 c1, .slice A2 n2 c2], boxC B5 32 [iV 0, iV 0, iV 0, iV 0, .slice none 0 0, .slice none 0 0], mapC ekI evB M11 p14, boxC B12 107 [.map (some M11)], kO3 A22 n22 c22 y21.Slots, kO3 A30 n30 c30 p30, boxC B24 32 [iV y21.Kind, iV y21.Shape, iV y21.Flags, iV y21.Age, .slice A22 n22 c22, .slice A30 n30 c30], kO3 A31 n31 c31 p31, boxC B25 25 [.slice A31 n31 c31]]) ?_ subT (cv_refl _)
      obtain ⟨q41, h⟩ := req_elim h
      refine N_opd 12 rfl (by kernel_rfl) (op_append 11 0 rfl rfl els_own rfl rfl Tryz.underlying25 zb38 rfl rfl q41) rfl rfl rfl ?_
      rintro _ _ ⟨A42, n42, c42, rfl, rfl⟩
      refine N_norm ([kO3 A40 n40 c40 ([x36, x37, x38] : List DValue), kS0 A29 n29 c29 x28.2, kS0 A1 n1 c1 a0.Slots, kS0 A2 n2 c2 a0.More, boxC B4 32 [iV a0.Kind, iV a0.Shape, iV a0.Flags, iV a0.Age, .slice A1 n1 c1, .slice A2 n2 c2], boxC B5 32 [iV 0, iV 0, iV 0, iV 0, .slice none 0 0, .slice none 0 0], mapC ekI evB M11 p14, boxC B12 107 [.map (some M11)], kO3 A22 n22 c22 y21.Slots, kO3 A30 n30 c30 p30, boxC B24 32 [iV y21.Kind, iV y21.Shape, iV y21.Flags, iV y21.Age, .slice A22 n22 c22, .slice A30 n30 c30], kO3 A42 n42 c42 (p31 ++ ([x36, x37, x38] : List DValue)), boxC B25 25 [.slice A31 n31 c31]]) rfl ?_
      refine N_opn 13 rfl (by kernel_rfl) (op_store (us := [.slice A42 n42 c42]) (cs' := [.slice A42 n42 c42]) 12 rfl rfl rfl rfl size25 rfl rfl rfl) rfl rfl ?_
      rintro _ _ rfl
      refine N_done (by kernel_rfl) ?_
      refine run ?_
      obtain ⟨rfl, rfl⟩ := Prod.mk.inj (Option.some.inj h)
      exact RK_n ((cv_sel [2, 3, 4, 5, 6, 7, 8, 9, 10, 11, 12] 13 rfl rfl).trans (cv_pack1 ((A30, n30, c30), (A42, n42, c42)) rfl))
    ·replace h := cond_f g35 h
     refine run ?_
     obtain ⟨x43, hx43, h⟩ := bind_elim h
     obtain ⟨lx43, ux43, hx43⟩ := getE_elim hx43
     refine gR (rd_idx 0 rfl els_sl rfl rfl Tryz.underlying25 size38 lx43 ux43) ?_
     refine gR (rd_elemS (us := [iV x43.Kind, iV x43.N, .string x43.S]) 0 rfl els_sl rfl hx43 agg38 (fun _ _ _ h => by rw [show _ = _ from h]; rfl)) ?_
     refine gD (op_alloc zero38 rfl) ?_
     rintro _ _ ⟨B44, rfl, rfl⟩
     refine gO (op_store (us := [iV x43.Kind, iV x43.N, .string x43.S]) (cs' := [iV x43.Kind, iV x43.N, .string x43.S]) 0 rfl rfl rfl rfl size38 rfl rfl rfl) ?_
     rintro _ _ rfl
     refine run ?_
     refine G_joinF (fun s L => ∃ (p46 : Int) (p47 : Int) (p48 : ByteArray), finreg_Clean_j45 N x28 a0 p14 y21 p30 p31 p46 p47 p48 = some (je, sr28) ∧ s = [(2, pV B4 0), (4, pV B5 0), (5, .slice none 0 0), (6, pV B12 0), (9, pV B24 0), (10, pV B25 0), (12, .slice A29 n29 c29), (13, pV B44 0)] ∧ L = [kS0 A29 n29 c29 x28.2, kS0 A1 n1 c1 a0.Slots, kS0 A2 n2 c2 a0.More, boxC B4 32 [iV a0.Kind, iV a0.Shape, iV a0.Flags, iV a0.Age, .slice A1 n1 c1, .slice A2 n2 c2], boxC B5 32 [iV 0, iV 0, iV 0, iV 0, .slice none 0 0, .slice none 0 0], mapC ekI evB M11 p14, boxC B12 107 [.map (some M11)], kO3 A22 n22 c22 y21.Slots, kO3 A30 n30 c30 p30, boxC B24 32 [iV y21.Kind, iV y21.Shape, iV y21.Flags, iV y21.Age, .slice A22 n22 c22, .slice A30 n30 c30], kO3 A31 n31 c31 p31, boxC B25 25 [.slice A31 n31 c31], boxC B44 38 [iV p46, iV p47, .string p48]]) ?_ ?_
     ·refine run ?_
      obtain ⟨b49, hb49, h⟩ := bind_elim h
      refine G_segb 6 68 b49 ?_ ?_
      ·clear h
       refine G_case 62 rfl (fun g49 => ?_) (fun g49 => ?_)
       ·have h := cond_t g49 hb49
        refine run ?_
        refine G_rd (rd_look1 (a := x43.N) (z := false) 6 rfl map_rw rfl rfl Tryz.underlying107 (keyOk_int Tryz.underlying3) zero4) rfl (g_tt g49 rfl) rfl ?_
        refine run ?_
        obtain rfl := Option.some.inj h
        exact G_joined sA (cv_sel [0, 1, 2, 3, 4, 5, 6, 7, 8, 9, 10, 11, 12] 13 rfl rfl)
       ·have h := cond_f g49 hb49
        refine run ?_
        obtain rfl := Option.some.inj h
        exact G_joined sA (cv_sel [0, 1, 2, 3, 4, 5, 6, 7, 8, 9, 10, 11, 12] 13 rfl rfl)
      refine run ?_
      refine G_cond rfl (fun g50 => ?_) (fun g50 => ?_)
      ·replace h := cond_t g50 h
       refine G_region ?_
       refine gE (ev_build rfl (bld_38_)) ?_
       refine gO (op_store (us := [iV 0, iV 0, .string (⟨#[]⟩)]) (cs' := [iV 0, iV 0, .string (⟨#[]⟩)]) 0 rfl rfl rfl rfl size38 rfl rfl rfl) ?_
       rintro _ _ rfl
       refine G_norm ([boxC B44 38 [iV 0, iV 0, .string (⟨#[]⟩)], kS0 A29 n29 c29 x28.2, kS0 A1 n1 c1 a0.Slots, kS0 A2 n2 c2 a0.More, boxC B4 32 [iV a0.Kind, iV a0.Shape, iV a0.Flags, iV a0.Age, .slice A1 n1 c1, .slice A2 n2 c2], boxC B5 32 [iV 0, iV 0, iV 0, iV 0, .slice none 0 0, .slice none 0 0], mapC ekI evB M11 p14, boxC B12 107 [.map (some M11)], kO3 A22 n22 c22 y21.Slots, kO3 A30 n30 c30 p30, boxC B24 32 [iV y21.Kind, iV y21.Shape, iV y21.Flags, iV y21.Age, .slice A22 n22 c22, .slice A30 n30 c30], kO3 A31 n31 c31 p31, boxC B25 25 [.slice A31 n31 c31]]) rfl ?_
       refine run ?_
       exact ⟨_, _, ⟨0, 0, ⟨#[]⟩, h, rfl, rfl⟩, sA, cv_sel [1, 2, 3, 4, 5, 6, 7, 8, 9, 10, 11, 12, 0] 13 rfl rfl⟩
      ·replace h := cond_f g50 h
       refine run ?_
       exact ⟨_, _, ⟨x43.Kind, x43.N, x43.S, h, rfl, rfl⟩, sA, cv_sel [1, 2, 3, 4, 5, 6, 7, 8, 9, 10, 11, 12, 0] 13 rfl rfl⟩
     ·rintro _ _ ⟨p46, p47, p48, h, rfl, rfl⟩
      obtain ⟨x51, hx51, h⟩ := bind_elim h
      obtain ⟨lx51, ux51, hx51⟩ := getE_elim hx51
      obtain ⟨x52, hx52, h⟩ := bind_elim h
      obtain ⟨lx52, ux52, hx52⟩ := getE_elim hx52
      obtain ⟨x53, hx53, h⟩ := bind_elim h
      obtain ⟨lx53, ux53, hx53⟩ := getE_elim hx53
      refine G_sub (t := [(2, pV B4 0), (4, pV B5 0), (5, .slice none 0 0), (6, pV B12 0), (9, pV B24 0), (10, pV B25 0), (12, .slice A29 n29 c29), (13, pV B44 0)]) ?_ subT (cv_refl _)
      refine G_monoX (by kernel_rfl) 13 [] [1, 12] [70, 71, 72, 73, 74, 75, 76, 77, 78, 79, 80, 81, 82] [[], [0], [], [2], [3], [], [5], [6], [], [], [9], [10], [4, 7, 8, 11]] [aV (pV B24 5),
 aV (.slice A30 n30 c30),
 aV (.slice A29 n29 c29),
 aV (elemQ (.slice A29 n29 c29) ((0 : Int).toNat) 3 0),
 aV (.agg #[iV x51.Kind, iV x51.N, .string x51.S]),
 aV (.slice A29 n29 c29),
 aV (elemQ (.slice A29 n29 c29) ((1 : Int).toNat) 3 0),
 aV (.agg #[iV x52.Kind, iV x52.N, .string x52.S]),
 aV (.agg #[iV p46, iV p47, .string p48]),
 aV (.slice A29 n29 c29),
 aV (elemQ (.slice A29 n29 c29) ((3 : Int).toNat) 3 0),
 aV (.agg #[iV x53.Kind, iV x53.N, .string x53.S]),
 aX3 (fun (A55 : Option Addr) (n55 c55 : Nat) => .slice A55 n55 c55) (fun A55 n55 c55 => [kO3 A55 n55 c55 ([x51, x52, (⟨p46, p47, p48⟩ : DValue), x53] : List DValue)])] [] (cv_refl _) (qB_nil) (by kernel_rfl) rfl rfl ?_ ?_ ?_
      ·exact qs_nil
      ·refine steps_cons rfl ?_ ?_
       ·refine X_op (op_bslice (R := rDValue) (vss := [[iV x51.Kind, iV x51.N, .string x51.S], [iV x52.Kind, iV x52.N, .string x52.S], [iV p46, iV p47, .string p48], [iV x53.Kind, iV x53.N, .string x53.S]]) (xs := [x51, x52, (⟨p46, p47, p48⟩ : DValue), x53]) rfl (bsl_25_4 _ _ _ _ _ _ _ _ _ _ _ _) rfl rfl (fun _ _ hr => .cons rfl (.cons rfl (.cons rfl (.cons rfl All2.nil))))) rfl ?_
        rintro _ _ ⟨A54, n54, c54, rfl, rfl⟩
        exact cvp3 A54 n54 c54 (cv_refl _)
       refine steps_cons rfl ?_ ?_
       ·exact X_rd (rd_elemS (us := [iV x53.Kind, iV x53.N, .string x53.S]) 0 rfl els_sl rfl hx53 agg38 (fun _ _ _ h => by rw [show _ = _ from h]; rfl)) rfl (cvpV rfl (cv_refl _))
       refine steps_cons rfl ?_ ?_
       ·exact X_rd (rd_idx 0 rfl els_sl rfl rfl Tryz.underlying25 size38 lx53 ux53) rfl (cvpV rfl (cv_refl _))
       refine steps_cons rfl ?_ ?_
       ·exact X_ev (ev_move rfl) rfl (cvpV rfl (cv_refl _))
       refine steps_cons rfl ?_ ?_
       ·exact X_rd (rd_boxS (us := [iV p46, iV p47, .string p48]) 12 rfl rfl agg38 rfl) rfl (cvpV rfl (cv_refl _))
       refine steps_cons rfl ?_ ?_
       ·exact X_rd (rd_elemS (us := [iV x52.Kind, iV x52.N, .string x52.S]) 0 rfl els_sl rfl hx52 agg38 (fun _ _ _ h => by rw [show _ = _ from h]; rfl)) rfl (cvpV rfl (cv_refl _))
       refine steps_cons rfl ?_ ?_
       ·exact X_rd (rd_idx 0 rfl els_sl rfl rfl Tryz.underlying25 size38 lx52 ux52) rfl (cvpV rfl (cv_refl _))
       refine steps_cons rfl ?_ ?_
       ·exact X_ev (ev_move rfl) rfl (cvpV rfl (cv_refl _))
       refine steps_cons rfl ?_ ?_
       ·exact X_rd (rd_elemS (us := [iV x51.Kind, iV x51.N, .string x51.S]) 0 rfl els_sl rfl hx51 agg38 (fun _ _ _ h => by rw [show _ = _ from h]; rfl)) rfl (cvpV rfl (cv_refl _))
       refine steps_cons rfl ?_ ?_
       ·exact X_rd (rd_idx 0 rfl els_sl rfl rfl Tryz.underlying25 size38 lx51 ux51) rfl (cvpV rfl (cv_refl _))
       refine steps_cons rfl ?_ ?_
       ·exact X_ev (ev_move rfl) rfl (cvpV rfl (cv_refl _))
       refine steps_cons rfl ?_ ?_
       ·exact X_rd (rd_box1 9 rfl rfl one25 rfl) rfl (cvpV rfl (cv_refl _))
       refine steps_cons rfl ?_ ?_
       ·exact X_ev (ev_fa rfl fa_32_5) rfl (cvpV rfl (cv_refl _))
       exact steps_nil
      ·intro A55 n55 c55
       refine N_sub (t := [(71, .slice A30 n30 c30), (82, .slice A55 n55 c55), (2, pV B4 0), (4, pV B5 0), (5, .slice none 0 0), (6, pV B12 0), (9, pV B24 0), (10, pV B25 0), (12, .slice A29 n29 c29), (13, pV B44 0)]) (L' := [kO3 A55 n55 c55 ([x51, x52, (⟨p46, p47, p48⟩ : DValue), x53] : List DValue), kS0 A29 n29 c29 x28.2, kS0 A1 n1 c1 a0.Slots, kS0 A2 n2 c2 a0.More, boxC B4 32 [iV a0.Kind, iV a0.Shape, iV a0.Flags, iV a0.Age, .slice A1 n1 c1, .slice A2 n2 c2], boxC B5 32 [iV 0, iV 0, iV 0, iV 0, .slice none 0 0, .slice none 0 0], mapC ekI evB M11 p14, boxC B12 107 [.map (some M11)], kO3 A22 n22 c22 y21.Slots, kO3 A30 n30 c30 p30, boxC B24 32 [iV y21.Kind, iV y21.Shape, iV y21.Flags, iV y21.Age, .slice A22 n22 c22, .slice A30 n30 c30], kO3 A31 n31 c31 p31, boxC B25 25 [.slice A31 n31 c31], boxC B44 38 [iV p46, iV p47, .string p48]]) ?_ subT (cv_refl _)
       obtain ⟨q56, h⟩ := req_elim h
       refine N_opd 13 rfl (by kernel_rfl) (op_append 9 0 rfl rfl els_own rfl rfl Tryz.underlying25 zb38 rfl rfl q56) rfl rfl rfl ?_
       rintro _ _ ⟨A57, n57, c57, rfl, rfl⟩
       refine N_ev 14 rfl (by kernel_rfl) (ev_fa rfl fa_32_5) rfl rfl rfl ?_
       refine N_opn 15 rfl (by kernel_rfl) (op_store (us := [.slice A57 n57 c57]) (cs' := [iV y21.Kind, iV y21.Shape, iV y21.Flags, iV y21.Age, .slice A22 n22 c22, .slice A57 n57 c57]) 10 rfl rfl rfl rfl size25 rfl rfl rfl) rfl rfl ?_
       rintro _ _ rfl
       refine N_done (by kernel_rfl) ?_
       refine bk_n ?_
       obtain ⟨rfl, rfl⟩ := Prod.mk.inj (Option.some.inj h)
       exact RK_n ((cv_sel [2, 3, 4, 5, 6, 7, 8, 9, 10, 11, 12] 14 rfl rfl).trans (cv_pack1 ((A57, n57, c57), (A31, n31, c31)) rfl))
   ·rintro ⟨⟨A30, n30, c30⟩, ⟨A31, n31, c31⟩⟩ h
    refine K3_norm ([kS0 A1 n1 c1 a0.Slots, kS0 A2 n2 c2 a0.More, boxC B4 32 [iV a0.Kind, iV a0.Shape, iV a0.Flags, iV a0.Age, .slice A1 n1 c1, .slice A2 n2 c2], boxC B5 32 [iV 0, iV 0, iV 0, iV 0, .slice none 0 0, .slice none 0 0], mapC ekI evB M11 p14, boxC B12 107 [.map (some M11)], kO3 A22 n22 c22 y21.Slots, kO3 A30 n30 c30 y32.2.1, boxC B24 32 [iV y21.Kind, iV y21.Shape, iV y21.Flags, iV y21.Age, .slice A22 n22 c22, .slice A30 n30 c30], kO3 A31 n31 c31 y32.2.2, boxC B25 25 [.slice A31 n31 c31]]) rfl ?_
    refine run ?_
    refine G_seq ?_
    refine G_drawn (by kernel_rfl) ([kS0 A1 n1 c1 a0.Slots, kS0 A2 n2 c2 a0.More, boxC B4 32 [iV a0.Kind, iV a0.Shape, iV a0.Flags, iV a0.Age, .slice A1 n1 c1, .slice A2 n2 c2], mapC ekI evB M11 p14, boxC B12 107 [.map (some M11)], kO3 A22 n22 c22 y21.Slots, kO3 A30 n30 c30 y32.2.1, boxC B24 32 [iV y21.Kind, iV y21.Shape, iV y21.Flags, iV y21.Age, .slice A22 n22 c22, .slice A30 n30 c30], kO3 A31 n31 c31 y32.2.2, boxC B25 25 [.slice A31 n31 c31]]) (cv_sel [0, 1, 2, 4, 5, 6, 7, 8, 9, 10] 11 rfl rfl) ?_
    refine T3_rd 0 rfl (by kernel_rfl) (rd_boxS (us := [iV y21.Kind, iV y21.Shape, iV y21.Flags, iV y21.Age, .slice A22 n22 c22, .slice A30 n30 c30]) 7 rfl rfl agg32 rfl) rfl rfl ?_
    refine T3_rd 1 rfl (by kernel_rfl) (rd_box1 9 rfl rfl one25 rfl) rfl rfl ?_
    refine T3_opn 2 rfl (by kernel_rfl) (op_store (us := [iV y21.Kind, iV y21.Shape, iV y21.Flags, iV y21.Age, .slice A22 n22 c22, .slice A30 n30 c30]) (cs' := [iV y21.Kind, iV y21.Shape, iV y21.Flags, iV y21.Age, .slice A22 n22 c22, .slice A30 n30 c30]) 3 rfl rfl rfl rfl size32 rfl rfl rfl) rfl rfl ?_
    rintro _ _ rfl
    refine ⟨[kS0 A1 n1 c1 a0.Slots, kS0 A2 n2 c2 a0.More, boxC B4 32 [iV a0.Kind, iV a0.Shape, iV a0.Flags, iV a0.Age, .slice A1 n1 c1, .slice A2 n2 c2], mapC ekI evB M11 p14, boxC B12 107 [.map (some M11)], kO3 A22 n22 c22 y21.Slots, kO3 A30 n30 c30 y32.2.1, boxC B24 32 [iV y21.Kind, iV y21.Shape, iV y21.Flags, iV y21.Age, .slice A22 n22 c22, .slice A30 n30 c30], kO3 A31 n31 c31 y32.2.2, boxC B25 25 [.slice A31 n31 c31]], cv_sel [0, 1, 2, 4, 5, 6, 7, 8, 9, 10] 11 rfl rfl, cv_refl _, ?_⟩
    refine T3_norm ([kS0 A1 n1 c1 a0.Slots, kS0 A2 n2 c2 a0.More, boxC B4 32 [iV a0.Kind, iV a0.Shape, iV a0.Flags, iV a0.Age, .slice A1 n1 c1, .slice A2 n2 c2], boxC B5 32 [iV y21.Kind, iV y21.Shape, iV y21.Flags, iV y21.Age, .slice A22 n22 c22, .slice A30 n30 c30], mapC ekI evB M11 p14, boxC B12 107 [.map (some M11)], kO3 A22 n22 c22 y21.Slots, kO3 A30 n30 c30 y32.2.1, boxC B24 32 [iV y21.Kind, iV y21.Shape, iV y21.Flags, iV y21.Age, .slice A22 n22 c22, .slice A30 n30 c30], kO3 A31 n31 c31 y32.2.2, boxC B25 25 [.slice A31 n31 c31]]) rfl ?_
    refine T3_ev 3 rfl (by kernel_rfl) (ev_assign rfl) rfl rfl ?_
    refine T3_done (by kernel_rfl) ?_
    refine run ?_
    obtain rfl := Option.some.inj h
    exact endGl (rs := [.cell 4 32, .tmp 5]) (vs := [.agg #[iV y21.Kind, iV y21.Shape, iV y21.Flags, iV y21.Age, .slice A22 n22 c22, .slice A30 n30 c30], .slice A31 n31 c31]) rfl (.cons (rv_boxS 3 rfl rfl agg32) (.cons (rv_tmp rfl) .nil)) rfl (cv_sel [6, 7, 9] 11 rfl rfl) ⟨_, _, _, _, _, _, _, _, _, rfl, rfl⟩
   ·rintro ⟨⟨A30, n30, c30⟩, ⟨A31, n31, c31⟩⟩ h
    exact none_some h
   ·rintro i ⟨⟨A30, n30, c30⟩, ⟨A31, n31, c31⟩⟩ h
    exact none_some h
theorem finreg_Clean_free {r : (DCell × (List DValue))} : ∀ v post, ((fun (u : Value) (post : List Chunk) => ∃ A0 n0 c0 A1 n1 c1 A2 n2 c2, u = .tuple #[.agg #[iV r.1.Kind, iV r.1.Shape, iV r.1.Flags, iV r.1.Age, .slice A0 n0 c0, .slice A1 n1 c1], .slice A2 n2 c2] ∧ post = [kO3 A0 n0 c0 r.1.Slots, kO3 A1 n1 c1 r.1.More, kO3 A2 n2 c2 r.2])) v post → ∀ c ∈ post, Free c := by
 rintro _ _ ⟨_, _, _, _, _, _, _, _, _, rfl, rfl⟩; exact mem_cons free_own (mem_cons free_own (mem_cons free_own (mem_nil)))
end Go.Proofs.YtmbaennilhdieaaGreat
/- Pure functions and contracts of Go functions (printed by all3.py). -/
namespace Go.Proofs.YtmbaennilhdieaaGreat
open Go.RowKit Asn
set_option maxRecDepth 20000
def w20_object_O (N : Nat) (a0 : Int) : Option DValue :=
 some (⟨7, a0, ⟨#[]⟩⟩ : DValue)
theorem w20_object_ok {N : Nat} {a0 : Int} {r : DValue} (h : w20_object_O N a0 = some r) : Okc Tryz.prog 88 [iV a0] ([]) (fun (u : Value) (post : List Chunk) => u = .agg #[iV r.Kind, iV r.N, .string r.S] ∧ post = []) := by
 refine ok_E Tryz.func88 rfl rfl ?_
 simp only [envOf]
 refine run ?_
 refine gD (op_alloc zero38 rfl) ?_
 rintro _ _ ⟨B1, rfl, rfl⟩
 refine run ?_
 refine gE (ev_build rfl (bld_38_0_1 _ _)) ?_
 refine gO (op_store (us := [iV 7, iV a0, .string (⟨#[]⟩)]) (cs' := [iV 7, iV a0, .string (⟨#[]⟩)]) 0 rfl rfl rfl rfl size38 rfl rfl rfl) ?_
 rintro _ _ rfl
 refine run ?_
 obtain rfl := Option.some.inj h
 exact endGl (rs := [.cell 2 38]) (vs := [.agg #[iV 7, iV a0, .string (⟨#[]⟩)]]) rfl (.cons (rv_boxS 0 rfl rfl agg38) .nil) rfl (cv_sel [] 1 rfl rfl) ⟨rfl, rfl⟩
theorem w20_object_free {r : DValue} : ∀ v post, ((fun (u : Value) (post : List Chunk) => u = .agg #[iV r.Kind, iV r.N, .string r.S] ∧ post = [])) v post → ∀ c ∈ post, Free c := by
 rintro _ _ ⟨rfl, rfl⟩; exact mem_nil
def minor_address_O (N : Nat) (a0 : DValue) : Option (Int × Bool) :=
 (bif decide (a0.Kind = 7) then (some true) else (some (decide (a0.Kind = 9)))).bind fun b2 => some (a0.N, b2)
theorem minor_address_ok {N : Nat} {a0 : DValue} {r : (Int × Bool)} (h : minor_address_O N a0 = some r) : Okc Tryz.prog 150 [.agg #[iV a0.Kind, iV a0.N, .string a0.S]] ([]) (fun (u : Value) (post : List Chunk) => u = .tuple #[iV r.1, .bool r.2] ∧ post = []) := by
 refine ok_E Tryz.func150 rfl rfl ?_
 simp only [envOf]
 refine run ?_
 refine gD (op_box rfl rfl) ?_
 rintro _ _ ⟨B1, rfl, rfl⟩
 refine run ?_
 refine G_seq ?_
 refine G_drawn (by kernel_rfl) _ (cv_refl _) ?_
 refine T3_ev 0 rfl (by kernel_rfl) (ev_fa rfl fa_38_1) rfl rfl ?_
 refine T3_rd 1 rfl (by kernel_rfl) (rd_box1 0 rfl rfl one3 rfl) rfl rfl ?_
 refine T3_ev 2 rfl (by kernel_rfl) (ev_fa0 rfl fa_38_0) rfl rfl ?_
 refine T3_rd 3 rfl (by kernel_rfl) (rd_box1 0 rfl rfl one3 rfl) rfl rfl ?_
 refine T3_ev 4 rfl (by kernel_rfl) (ev_eq rfl rfl) rfl rfl ?_
 refine T3_ev 5 rfl (by kernel_rfl) (ev_move rfl) rfl rfl ?_
 refine T3_ev 10 rfl (by kernel_rfl) (ev_assign rfl) rfl rfl ?_
 obtain ⟨b2, hb2, h⟩ := bind_elim h
 refine T3_joinB (fun l => ((((l.setIfInBounds 6 true).setIfInBounds 7 true).setIfInBounds 8 true).setIfInBounds 9 true)) 1 13 b2 (fun rest => ?_) ?_
 ·clear h
  refine T3_case 9 rfl (fun g2 => ?_) (fun g2 => ?_)
  ·have h := cond_t g2 hb2
   refine T3_no 6 rfl (by kernel_rfl) (g_ft g2 rfl) rfl ?_
   refine T3_no 7 rfl (by kernel_rfl) (g_ft g2 rfl) rfl ?_
   refine T3_no 8 rfl (by kernel_rfl) (g_ft g2 rfl) rfl ?_
   refine T3_ev 9 rfl (by kernel_rfl) (ev_pick_t' g2 rfl rfl) rfl rfl ?_
   obtain rfl := Option.some.inj h
   exact T3_sub rest (sub_cons rfl (sub_skip (sub_skip (sub_skip (sub_skip sub_refl rfl) rfl) rfl) rfl)) (cv_refl _) (cv_refl _)
  ·have h := cond_f g2 hb2
   refine T3_ev 6 rfl (by kernel_rfl) (ev_fa0 rfl fa_38_0) (g_ff g2 rfl) rfl ?_
   refine T3_rd 7 rfl (by kernel_rfl) (rd_box1 0 rfl rfl one3 rfl) (g_ff g2 rfl) rfl ?_
   refine T3_ev 8 rfl (by kernel_rfl) (ev_eq rfl rfl) (g_ff g2 rfl) rfl ?_
   refine T3_ev 9 rfl (by kernel_rfl) (ev_pick_f' g2 rfl rfl) rfl rfl ?_
   obtain rfl := Option.some.inj h
   exact T3_sub rest (sub_cons rfl (sub_skip (sub_skip (sub_skip (sub_skip sub_refl rfl) rfl) rfl) rfl)) (cv_refl _) (cv_refl _)
 refine T3_ev 11 rfl (by kernel_rfl) (ev_assign rfl) rfl rfl ?_
 refine T3_done (by kernel_rfl) ?_
 refine run ?_
 obtain rfl := Option.some.inj h
 exact endG2 rfl rfl rfl (cv_sel [] 1 rfl rfl) ⟨rfl, rfl⟩
theorem minor_address_free {r : (Int × Bool)} : ∀ v post, ((fun (u : Value) (post : List Chunk) => u = .tuple #[iV r.1, .bool r.2] ∧ post = [])) v post → ∀ c ∈ post, Free c := by
 rintro _ _ ⟨rfl, rfl⟩; exact mem_nil
def minor_may_c1_O (N : Nat) (a0 : DValue) (a1 : DMemory) : Option Bool :=
 (minor_address_O N a0).bind fun y5 => (bif y5.2 then ((reach_Has_O N a1 y5.1).bind fun y7 => some (!y7)) else (some false)).bind fun b6 => some b6
theorem minor_may_c1_ok {N : Nat} {a0 : DValue} {a1 : DMemory} {r : Bool} (h : minor_may_c1_O N a0 a1 = some r) {B1 : Nat} {A2 : Option Addr} {n2 c2 : Nat} {A3 : Option Addr} {n3 c3 : Nat} : Okc Tryz.prog 149 [.agg #[iV a0.Kind, iV a0.N, .string a0.S], pV B1 0] ([rboxC B1 24 [.slice A2 n2 c2, .slice A3 n3 c3], kS1 A2 n2 c2 a1.Young, kS1 A3 n3 c3 a1.Old]) (fun (u : Value) (post : List Chunk) => u = .bool r ∧ post = []) := by
 refine ok_E Tryz.func149 rfl rfl ?_
 simp only [envOf]
 refine run ?_
 refine gD (op_box rfl rfl) ?_
 rintro _ _ ⟨B4, rfl, rfl⟩
 refine run ?_
 refine gR (rd_boxS (us := [iV a0.Kind, iV a0.N, .string a0.S]) 0 rfl rfl agg38 rfl) ?_
 obtain ⟨y5, hy5, h⟩ := bind_elim h
 refine gD (op_callR (minor_address_ok hy5) call150 rfl (mem_nil) minor_address_free) ?_
 rintro _ _ ⟨_, ⟨rfl, rfl⟩, rfl⟩
 refine run ?_
 obtain ⟨b6, hb6, h⟩ := bind_elim h
 refine G_segb 5 17 b6 ?_ ?_
 ·clear h
  refine G_case 12 rfl (fun g6 => ?_) (fun g6 => ?_)
  ·have h := cond_t g6 hb6
   refine G_rd (rd_rboxS (us := [.slice A2 n2 c2, .slice A3 n3 c3]) 1 rfl rfl agg24 rfl) rfl (g_tt g6 rfl) rfl ?_
   refine run ?_
   obtain ⟨y7, hy7, h⟩ := bind_elim h
   refine G_opd (op_callR (reach_Has_ok hy7) call13 rfl (mem_cons (lent_ro (i := 2) rfl rfl) (mem_cons (lent_ro (i := 3) rfl rfl) mem_nil)) reach_Has_free) rfl (g_tt g6 rfl) rfl ?_
   rintro _ _ ⟨_, ⟨rfl, rfl⟩, rfl⟩
   refine run ?_
   obtain rfl := Option.some.inj h
   exact G_joined sA (cv_sel [0, 1, 2, 3] 4 rfl rfl)
  ·have h := cond_f g6 hb6
   refine run ?_
   obtain rfl := Option.some.inj h
   exact G_joined sA (cv_sel [0, 1, 2, 3] 4 rfl rfl)
 refine run ?_
 obtain rfl := Option.some.inj h
 exact endG1 rfl rfl (cv_sel [] 4 rfl rfl) ⟨rfl, rfl⟩
def slices_IndexFunc_Value_j2 (N : Nat) (ff : DValue → Option Bool) : Option Int :=
 some (-1)
def slices_IndexFunc_Value_l3 (N : Nat) (ff : DValue → Option Bool) (a0 : (List DValue)) : Nat → Int → Option Int
 | 0, _ => none
 | m3 + 1, p4 => bif decide (p4 < (a0.length : Int)) then ((getE a0 p4).bind fun x6 => (ff x6).bind fun y7 => bif y7 then (some p4) else (req (in64 (p4 + 1)) ((slices_IndexFunc_Value_l3 N ff a0 m3) (p4 + 1)))) else (slices_IndexFunc_Value_j2 N ff)
theorem slices_IndexFunc_Value_l3_s {N m3 : Nat} {ff : DValue → Option Bool} {a0 : (List DValue)} {p4 : Int} : slices_IndexFunc_Value_l3 N ff a0 (m3 + 1) p4 = bif decide (p4 < (a0.length : Int)) then ((getE a0 p4).bind fun x6 => (ff x6).bind fun y7 => bif y7 then (some p4) else (req (in64 (p4 + 1)) ((slices_IndexFunc_Value_l3 N ff a0 m3) (p4 + 1)))) else (slices_IndexFunc_Value_j2 N ff) := rfl
def slices_IndexFunc_Value_O (N : Nat) (a0 : (List DValue)) (ff : DValue → Option Bool) : Option Int :=
 slices_IndexFunc_Value_l3 N ff a0 N 0
theorem slices_IndexFunc_Value_ok {N : Nat} {a0 : (List DValue)} {ff : DValue → Option Bool} {r : Int} (h : slices_IndexFunc_Value_O N a0 ff = some r) {A1 : Option Addr} {n1 c1 : Nat} {vf : Value} {G : List Chunk} (hf : FnOk Tryz.prog vf G (fun x => [.agg #[iV x.Kind, iV x.N, .string x.S]]) (fun r => .bool r) ff) : Okc Tryz.prog 186 [.slice A1 n1 c1, vf] (kS0 A1 n1 c1 a0 :: G) (fun (u : Value) (post : List Chunk) => u = iV r ∧ post = []) := by
 refine ok_E Tryz.func186 rfl rfl ?_
 simp only [envOf]
 refine run ?_
 refine G_joinF (fun s L => slices_IndexFunc_Value_j2 N ff = some r ∧ s = [(4, iV 0)] ∧ L = G) ?_ ?_
 ·refine run ?_
  refine gR (rd_len 0 rfl els_sl rfl Tryz.underlying25) ?_
  refine run ?_
  refine G_loopF (fun m s L => ∃ (p4 : Int), slices_IndexFunc_Value_l3 N ff a0 m p4 = some r ∧ s = [(0, .slice A1 n1 c1), (1, vf), (4, iV 0), (7, iV (a0.length : Int)), (8, iV p4)] ∧ L = kS0 A1 n1 c1 a0 :: G) N _ _ ⟨0, h, rfl, rfl⟩ sA (cv_sel [0] 1 rfl rfl) ?_
  rintro (_ | m3) _ _ ⟨p4, h, rfl, rfl⟩
  ·exact none_some h
  rw [slices_IndexFunc_Value_l3_s] at h
  refine run ?_
  refine G_seq ?_
  refine G_cond rfl (fun g5 => ?_) (fun g5 => ?_)
  ·replace h := cond_t g5 h
   refine run ?_
   refine G_seq ?_
   refine run ?_
   obtain ⟨x6, hx6, h⟩ := bind_elim h
   obtain ⟨lx6, ux6, hx6⟩ := getE_elim hx6
   refine gR (rd_idx 0 rfl els_sl rfl rfl Tryz.underlying25 size38 lx6 ux6) ?_
   refine gR (rd_elemS (us := [iV x6.Kind, iV x6.N, .string x6.S]) 0 rfl els_sl rfl hx6 agg38 (fun _ _ _ h => by rw [show _ = _ from h]; rfl)) ?_
   obtain ⟨y7, hy7, h⟩ := bind_elim h
   refine gD (op_callf (a := x6) [kS0 A1 n1 c1 a0] hf hy7 rfl rfl) ?_
   rintro _ _ ⟨rfl, rfl⟩
   refine run ?_
   refine G_cond rfl (fun g8 => ?_) (fun g8 => ?_)
   ·replace h := cond_t g8 h
    refine run ?_
    obtain rfl := Option.some.inj h
    exact endG1 rfl rfl (cv_selD [] 1 rfl rfl) ⟨rfl, rfl⟩
   ·replace h := cond_f g8 h
    refine run ?_
    obtain ⟨q9, h⟩ := req_elim h
    refine gE (ev_add rfl rfl q9.1 q9.2) ?_
    refine run ?_
    exact ⟨m3, _, _, Nat.lt_succ_self _, ⟨p4 + 1, h, rfl, rfl⟩, sA, cv_sel [0] 1 rfl rfl⟩
  ·replace h := cond_f g5 h
   refine run ?_
   exact ⟨_, _, ⟨h, rfl, rfl⟩, sA, cv_sel [] 1 rfl rfl⟩
 ·rintro _ _ ⟨h, rfl, rfl⟩
  refine run ?_
  obtain rfl := Option.some.inj h
  exact endG1 rfl rfl (cv_selD [] 0 rfl rfl) ⟨rfl, rfl⟩
theorem slices_IndexFunc_Value_free {r : Int} : ∀ v post, ((fun (u : Value) (post : List Chunk) => u = iV r ∧ post = [])) v post → ∀ c ∈ post, Free c := by
 rintro _ _ ⟨rfl, rfl⟩; exact mem_nil
def slices_ContainsFunc_Value_O (N : Nat) (a0 : (List DValue)) (ff : DValue → Option Bool) : Option Bool :=
 (slices_IndexFunc_Value_O N a0 ff).bind fun y2 => some (decide (0 ≤ y2))
theorem slices_ContainsFunc_Value_ok {N : Nat} {a0 : (List DValue)} {ff : DValue → Option Bool} {r : Bool} (h : slices_ContainsFunc_Value_O N a0 ff = some r) {A1 : Option Addr} {n1 c1 : Nat} {vf : Value} {G : List Chunk} (hf : FnOk Tryz.prog vf G (fun x => [.agg #[iV x.Kind, iV x.N, .string x.S]]) (fun r => .bool r) ff) : Okc Tryz.prog 151 [.slice A1 n1 c1, vf] (kS0 A1 n1 c1 a0 :: G) (fun (u : Value) (post : List Chunk) => u = .bool r ∧ post = []) := by
 refine ok_E Tryz.func151 rfl rfl ?_
 simp only [envOf]
 refine run ?_
 obtain ⟨y2, hy2, h⟩ := bind_elim h
 refine gD (op_callR (slices_IndexFunc_Value_ok hy2 hf) call186 rfl (mem_cons (lent_ro (i := 0) rfl rfl) (lent_tail (E := [kS0 A1 n1 c1 a0]) hf.1)) slices_IndexFunc_Value_free) ?_
 rintro _ _ ⟨_, ⟨rfl, rfl⟩, rfl⟩
 refine run ?_
 obtain rfl := Option.some.inj h
 exact endG1 rfl rfl (cv_selD [] 1 rfl rfl) ⟨rfl, rfl⟩
theorem slices_ContainsFunc_Value_free {r : Bool} : ∀ v post, ((fun (u : Value) (post : List Chunk) => u = .bool r ∧ post = [])) v post → ∀ c ∈ post, Free c := by
 rintro _ _ ⟨rfl, rfl⟩; exact mem_nil
def slices_Grow_Cell_n_j2 (N : Nat) (p3 : (List DCell)) : Option (List DCell) :=
 some p3
def slices_Grow_Cell_n_O (N : Nat) (a1 : Int) : Option (List DCell) :=
 bif decide (a1 < 0) then none else (req (in64 (0 - 0)) (req (in64 (a1 - (0 - 0))) (bif decide (0 < a1 - (0 - 0)) then (req ((0 : Int) < (a1 - (0 - 0)) ∧ (a1 - (0 - 0)) ≤ 1099511627776) (slices_Grow_Cell_n_j2 N ([] : List DCell))) else (slices_Grow_Cell_n_j2 N []))))
theorem slices_Grow_Cell_n_ok {N : Nat} {a1 : Int} {r : (List DCell)} (h : slices_Grow_Cell_n_O N a1 = some r) : Okc Tryz.prog 199 [.slice none 0 0, iV a1] ([]) (fun (u : Value) (post : List Chunk) => ∃ A0 n0 c0, u = .slice A0 n0 c0 ∧ post = [kO4 A0 n0 c0 r]) := by
 refine ok_E Tryz.func199 rfl rfl ?_
 simp only [envOf]
 refine run ?_
 refine G_seq ?_
 refine run ?_
 refine G_cond rfl (fun g1 => ?_) (fun g1 => ?_)
 ·replace h := cond_t g1 h
  exact none_some h
 ·replace h := cond_f g1 h
  refine run ?_
  refine G_joinF (fun s L => ∃ (p3 : (List DCell)) (A3 : Option Addr) (n3 c3 : Nat), slices_Grow_Cell_n_j2 N p3 = some r ∧ s = [(0, .slice A3 n3 c3), (4, .slice none 0 0)] ∧ L = [kO4 A3 n3 c3 p3]) ?_ ?_
  ·refine run ?_
   refine gE (ev_cap0 rfl Tryz.underlying22) ?_
   refine run ?_
   refine gE (ev_len rfl Tryz.underlying22) ?_
   obtain ⟨q4, h⟩ := req_elim h
   refine gE (ev_sub rfl rfl q4.1 q4.2) ?_
   obtain ⟨q5, h⟩ := req_elim h
   refine gE (ev_sub rfl rfl q5.1 q5.2) ?_
   refine run ?_
   refine G_cond rfl (fun g6 => ?_) (fun g6 => ?_)
   ·replace h := cond_t g6 h
    refine run ?_
    refine gE (ev_cap0 rfl Tryz.underlying22) ?_
    refine gE (ev_slice0 rfl Tryz.underlying22 size32 rfl) ?_
    refine run ?_
    obtain ⟨q7, h⟩ := req_elim h
    refine gD (op_appendZ rfl rfl Tryz.underlying22 Tryz.underlying3 zb32 rfl q7.1 q7.2) ?_
    rintro _ _ ⟨A8, n8, c8, rfl, rfl⟩
    refine run ?_
    refine gE (ev_len rfl Tryz.underlying22) ?_
    refine gD (op_cut0 (R := rDCell) 0 rfl rfl Tryz.underlying22 size32 rfl rfl) ?_
    rintro _ _ ⟨A9, n9, c9, rfl, rfl⟩
    refine run ?_
    exact ⟨_, _, ⟨([] : List DCell), A9, n9, c9, h, rfl, rfl⟩, sA, cv_sel [0] 1 rfl rfl⟩
   ·replace h := cond_f g6 h
    refine run ?_
    exact ⟨_, _, ⟨[], none, 0, 0, h, rfl, rfl⟩, sA, (cv_nil rDCell 32 _).trans (cv_sel [0] 1 rfl rfl)⟩
  ·rintro _ _ ⟨p3, A3, n3, c3, h, rfl, rfl⟩
   refine run ?_
   obtain rfl := Option.some.inj h
   exact endG1 rfl rfl (cv_sel [0] 1 rfl rfl) ⟨_, _, _, rfl, rfl⟩
def slices_Concat_Cell_j11 (N : Nat) (p12 : (List DCell)) : Option (List DCell) :=
 some p12
def slices_Concat_Cell_j4 (N : Nat) (a0_0 : (List DCell)) (a0_1 : (List DCell)) : Option (List DCell) :=
 (slices_Grow_Cell_n_O N ((0 + (a0_0.length : Int)) + (a0_1.length : Int))).bind fun y9 => req (fitsL (y9.length + a0_0.length)) (req (fitsL ((y9 ++ a0_0).length + a0_1.length)) (slices_Concat_Cell_j11 N ((y9 ++ a0_0) ++ a0_1)))
def slices_Concat_Cell_O (N : Nat) (a0_0 : (List DCell)) (a0_1 : (List DCell)) : Option (List DCell) :=
 req (in64 (0 + (a0_0.length : Int))) (bif decide (0 + (a0_0.length : Int) < 0) then none else (req (in64 ((0 + (a0_0.length : Int)) + (a0_1.length : Int))) (bif decide ((0 + (a0_0.length : Int)) + (a0_1.length : Int) < 0) then none else (slices_Concat_Cell_j4 N a0_0 a0_1))))
theorem slices_Concat_Cell_ok {N : Nat} {a0_0 : (List DCell)} {a0_1 : (List DCell)} {r : (List DCell)} (h : slices_Concat_Cell_O N a0_0 a0_1 = some r) {B1 : Nat} {A2 : Option Addr} {n2 c2 : Nat} {A3 : Option Addr} {n3 c3 : Nat} : Okc Tryz.prog 187 [.slice (some ⟨B1, 0, none⟩) 2 2] ([rboxC B1 22 [.slice A2 n2 c2, .slice A3 n3 c3], kS1 A2 n2 c2 a0_0, kS1 A3 n3 c3 a0_1]) (fun (u : Value) (post : List Chunk) => ∃ A0 n0 c0, u = .slice A0 n0 c0 ∧ post = [kO4 A0 n0 c0 r]) := by
 refine ok_E Tryz.func187 rfl rfl ?_
 simp only [envOf]
 refine run ?_
 refine G_joinF (fun s L => slices_Concat_Cell_j4 N a0_0 a0_1 = some r ∧ s = [(0, .slice (some ⟨B1, 0, none⟩) 2 2), (2, .slice none 0 0), (3, iV ((0 + (a0_0.length : Int)) + (a0_1.length : Int)))] ∧ L = [kS1 A2 n2 c2 a0_0, kS1 A3 n3 c3 a0_1, rboxC B1 22 [.slice A2 n2 c2, .slice A3 n3 c3]]) ?_ ?_
 ·refine run ?_
  refine gE (ev_len rfl Tryz.underlying66) ?_
  refine run ?_
  refine G_rounds 3 ?_
  refine Wr_s ?_
  refine run ?_
  refine G_seq ?_
  refine G_cond_t rfl ?_
  refine run ?_
  refine G_seq ?_
  refine run ?_
  refine gE (ev_idx rfl rfl Tryz.underlying66 size22 (by decide) (by decide)) ?_
  refine gR (rd_rbox1 0 rfl rfl one22 rfl) ?_
  refine run ?_
  refine gR (rd_len 1 rfl els_sl rfl Tryz.underlying22) ?_
  obtain ⟨q5, h⟩ := req_elim h
  refine gE (ev_add rfl rfl q5.1 q5.2) ?_
  refine run ?_
  refine G_cond rfl (fun g6 => ?_) (fun g6 => ?_)
  ·replace h := cond_t g6 h
   exact none_some h
  ·replace h := cond_f g6 h
   refine run ?_
   refine gE (ev_add rfl rfl (by decide) (by decide)) ?_
   refine run ?_
   refine Wr_s ?_
   refine run ?_
   refine G_seq ?_
   refine G_cond_t rfl ?_
   refine run ?_
   refine G_seq ?_
   refine run ?_
   refine gE (ev_idx rfl rfl Tryz.underlying66 size22 (by decide) (by decide)) ?_
   refine gR (rd_rbox1 0 rfl rfl one22 rfl) ?_
   refine run ?_
   refine gR (rd_len 2 rfl els_sl rfl Tryz.underlying22) ?_
   obtain ⟨q7, h⟩ := req_elim h
   refine gE (ev_add rfl rfl q7.1 q7.2) ?_
   refine run ?_
   refine G_cond rfl (fun g8 => ?_) (fun g8 => ?_)
   ·replace h := cond_t g8 h
    exact none_some h
   ·replace h := cond_f g8 h
    refine run ?_
    refine gE (ev_add rfl rfl (by decide) (by decide)) ?_
    refine run ?_
    refine Wr_s ?_
    refine run ?_
    refine G_seq ?_
    refine G_cond_f rfl ?_
    refine run ?_
    exact ⟨_, _, ⟨h, rfl, rfl⟩, sA, cv_sel [1, 2, 0] 3 rfl rfl⟩
 ·rintro _ _ ⟨h, rfl, rfl⟩
  refine run ?_
  obtain ⟨y9, hy9, h⟩ := bind_elim h
  refine gD (op_call (slices_Grow_Cell_n_ok hy9) call199 rfl (cv_take [] [] [0, 1, 2] 3 rfl)) ?_
  rintro _ _ ⟨_, ⟨A10, n10, c10, rfl, rfl⟩, rfl⟩
  refine run ?_
  refine G_joinF (fun s L => ∃ (p12 : (List DCell)) (A12 : Option Addr) (n12 c12 : Nat), slices_Concat_Cell_j11 N p12 = some r ∧ s = [(2, .slice none 0 0), (6, .slice A12 n12 c12)] ∧ L = [kO4 A12 n12 c12 p12]) ?_ ?_
  ·refine run ?_
   refine gE (ev_len rfl Tryz.underlying66) ?_
   refine run ?_
   refine G_rounds 3 ?_
   refine Wr_s ?_
   refine run ?_
   refine G_seq ?_
   refine G_cond_t rfl ?_
   refine run ?_
   refine G_seq ?_
   refine run ?_
   refine gE (ev_idx rfl rfl Tryz.underlying66 size22 (by decide) (by decide)) ?_
   refine gR (rd_rbox1 3 rfl rfl one22 rfl) ?_
   refine run ?_
   obtain ⟨q13, h⟩ := req_elim h
   refine gD (op_append 0 1 rfl rfl els_sl rfl rfl Tryz.underlying22 zb32 rfl rfl q13) ?_
   rintro _ _ ⟨A14, n14, c14, rfl, rfl⟩
   refine run ?_
   refine gE (ev_add rfl rfl (by decide) (by decide)) ?_
   refine run ?_
   refine Wr_s ?_
   refine run ?_
   refine G_seq ?_
   refine G_cond_t rfl ?_
   refine run ?_
   refine G_seq ?_
   refine run ?_
   refine gE (ev_idx rfl rfl Tryz.underlying66 size22 (by decide) (by decide)) ?_
   refine gR (rd_rbox1 3 rfl rfl one22 rfl) ?_
   refine run ?_
   obtain ⟨q15, h⟩ := req_elim h
   refine gD (op_append 0 2 rfl rfl els_sl rfl rfl Tryz.underlying22 zb32 rfl rfl q15) ?_
   rintro _ _ ⟨A16, n16, c16, rfl, rfl⟩
   refine G_norm ([kO4 A16 n16 c16 ((y9 ++ a0_0) ++ a0_1), kS1 A2 n2 c2 a0_0, kS1 A3 n3 c3 a0_1, rboxC B1 22 [.slice A2 n2 c2, .slice A3 n3 c3]]) rfl ?_
   refine run ?_
   refine gE (ev_add rfl rfl (by decide) (by decide)) ?_
   refine run ?_
   refine Wr_s ?_
   refine run ?_
   refine G_seq ?_
   refine G_cond_f rfl ?_
   refine run ?_
   exact ⟨_, _, ⟨(y9 ++ a0_0) ++ a0_1, A16, n16, c16, h, rfl, rfl⟩, sA, cv_sel [0] 4 rfl rfl⟩
  ·rintro _ _ ⟨p12, A12, n12, c12, h, rfl, rfl⟩
   refine run ?_
   obtain rfl := Option.some.inj h
   exact endG1 rfl rfl (cv_sel [0] 1 rfl rfl) ⟨_, _, _, rfl, rfl⟩
def minor_addresses_O (N : Nat) (a0 : DCell) : Option (List Int) :=
 (cell_Leads_O N a0).bind fun y4 => (cell_Weakly_O N a0).bind fun y6 => req (fitsL (y4.length + y6.length)) (some (y4 ++ y6))
theorem minor_addresses_ok {N : Nat} {a0 : DCell} {r : (List Int)} (h : minor_addresses_O N a0 = some r) {A1 : Option Addr} {n1 c1 : Nat} {A2 : Option Addr} {n2 c2 : Nat} : Okc Tryz.prog 153 [.agg #[iV a0.Kind, iV a0.Shape, iV a0.Flags, iV a0.Age, .slice A1 n1 c1, .slice A2 n2 c2]] ([kS0 A1 n1 c1 a0.Slots, kS0 A2 n2 c2 a0.More]) (fun (u : Value) (post : List Chunk) => ∃ A0 n0 c0, u = .slice A0 n0 c0 ∧ post = [kO2 A0 n0 c0 r]) := by
 refine ok_E Tryz.func153 rfl rfl ?_
 simp only [envOf]
 refine run ?_
 refine gD (op_box rfl rfl) ?_
 rintro _ _ ⟨B3, rfl, rfl⟩
 refine run ?_
 refine G_seq ?_
 refine G_drawn (by kernel_rfl) _ (cv_refl _) ?_
 refine T3_rd 0 rfl (by kernel_rfl) (rd_boxS (us := [iV a0.Kind, iV a0.Shape, iV a0.Flags, iV a0.Age, .slice A1 n1 c1, .slice A2 n2 c2]) 0 rfl rfl agg32 rfl) rfl rfl ?_
 refine T3_rd 2 rfl (by kernel_rfl) (rd_boxS (us := [iV a0.Kind, iV a0.Shape, iV a0.Flags, iV a0.Age, .slice A1 n1 c1, .slice A2 n2 c2]) 0 rfl rfl agg32 rfl) rfl rfl ?_
 obtain ⟨y4, hy4, h⟩ := bind_elim h
 refine T3_opd 1 rfl (by kernel_rfl) (op_callR (cell_Leads_ok hy4) call55 rfl (mem_cons (lent_ro (i := 1) rfl rfl) (mem_cons (lent_ro (i := 2) rfl rfl) mem_nil)) cell_Leads_free) rfl rfl rfl ?_
 rintro _ _ ⟨_, ⟨A5, n5, c5, rfl, rfl⟩, rfl⟩
 refine ⟨[boxC B3 32 [iV a0.Kind, iV a0.Shape, iV a0.Flags, iV a0.Age, .slice A1 n1 c1, .slice A2 n2 c2], kS0 A1 n1 c1 a0.Slots, kS0 A2 n2 c2 a0.More], cv_sel [1, 2, 3] 4 rfl rfl, cv_refl _, ?_⟩
 obtain ⟨y6, hy6, h⟩ := bind_elim h
 refine T3_opd 3 rfl (by kernel_rfl) (op_callR (cell_Weakly_ok hy6) call56 rfl (mem_cons (lent_ro (i := 2) rfl rfl) (mem_cons (lent_ro (i := 3) rfl rfl) mem_nil)) cell_Weakly_free) rfl rfl rfl ?_
 rintro _ _ ⟨_, ⟨A7, n7, c7, rfl, rfl⟩, rfl⟩
 refine ⟨[boxC B3 32 [iV a0.Kind, iV a0.Shape, iV a0.Flags, iV a0.Age, .slice A1 n1 c1, .slice A2 n2 c2], kS0 A1 n1 c1 a0.Slots, kS0 A2 n2 c2 a0.More], cv_sel [2, 3, 4] 5 rfl rfl, cv_refl _, ?_⟩
 obtain ⟨q8, h⟩ := req_elim h
 refine T3_opd 4 rfl (by kernel_rfl) (op_append 1 0 rfl rfl els_own rfl rfl Tryz.underlying35 zb3 rfl rfl q8) rfl rfl rfl ?_
 rintro _ _ ⟨A9, n9, c9, rfl, rfl⟩
 refine ⟨[boxC B3 32 [iV a0.Kind, iV a0.Shape, iV a0.Flags, iV a0.Age, .slice A1 n1 c1, .slice A2 n2 c2], kS0 A1 n1 c1 a0.Slots, kS0 A2 n2 c2 a0.More], cv_sel [2, 3, 4] 5 rfl rfl, cv_refl _, ?_⟩
 refine T3_norm ([kO2 A7 n7 c7 y6, kO2 A9 n9 c9 (y4 ++ y6), boxC B3 32 [iV a0.Kind, iV a0.Shape, iV a0.Flags, iV a0.Age, .slice A1 n1 c1, .slice A2 n2 c2], kS0 A1 n1 c1 a0.Slots, kS0 A2 n2 c2 a0.More]) rfl ?_
 refine T3_ev 5 rfl (by kernel_rfl) (ev_assign rfl) rfl rfl ?_
 refine T3_done (by kernel_rfl) ?_
 refine run ?_
 obtain rfl := Option.some.inj h
 exact endG1 rfl rfl (cv_sel [1] 5 rfl rfl) ⟨_, _, _, rfl, rfl⟩
theorem minor_addresses_free {r : (List Int)} : ∀ v post, ((fun (u : Value) (post : List Chunk) => ∃ A0 n0 c0, u = .slice A0 n0 c0 ∧ post = [kO2 A0 n0 c0 r])) v post → ∀ c ∈ post, Free c := by
 rintro _ _ ⟨_, _, _, rfl, rfl⟩; exact mem_cons free_own (mem_nil)
def minor_sound_c1_O (N : Nat) (a0 : Int) (a1 : DMemory) : Option Bool :=
 (reach_Has_O N a1 a0).bind fun y4 => some (!y4)
theorem minor_sound_c1_ok {N : Nat} {a0 : Int} {a1 : DMemory} {r : Bool} (h : minor_sound_c1_O N a0 a1 = some r) {B1 : Nat} {A2 : Option Addr} {n2 c2 : Nat} {A3 : Option Addr} {n3 c3 : Nat} : Okc Tryz.prog 188 [iV a0, pV B1 0] ([rboxC B1 24 [.slice A2 n2 c2, .slice A3 n3 c3], kS1 A2 n2 c2 a1.Young, kS1 A3 n3 c3 a1.Old]) (fun (u : Value) (post : List Chunk) => u = .bool r ∧ post = []) := by
 refine ok_E Tryz.func188 rfl rfl ?_
 simp only [envOf]
 refine run ?_
 refine gR (rd_rboxS (us := [.slice A2 n2 c2, .slice A3 n3 c3]) 0 rfl rfl agg24 rfl) ?_
 refine run ?_
 obtain ⟨y4, hy4, h⟩ := bind_elim h
 refine gD (op_callR (reach_Has_ok hy4) call13 rfl (mem_cons (lent_ro (i := 1) rfl rfl) (mem_cons (lent_ro (i := 2) rfl rfl) mem_nil)) reach_Has_free) ?_
 rintro _ _ ⟨_, ⟨rfl, rfl⟩, rfl⟩
 refine run ?_
 obtain rfl := Option.some.inj h
 exact endG1 rfl rfl (cv_sel [] 3 rfl rfl) ⟨rfl, rfl⟩
def minor_sound_j4 (N : Nat) : Option Bool :=
 some true
def minor_sound_l8 (N : Nat) (y6 : ((List DCell))) (a0 : DMemory) : Nat → Int → Option Bool
 | 0, _ => none
 | m8 + 1, p9 => bif decide (p9 < (y6.length : Int)) then ((getE y6 p9).bind fun x11 => (cell_Right_O N x11).bind fun y15 => (bif !y15 then (some true) else ((minor_addresses_O N x11).bind fun y17 => (slices_ContainsFunc_O N y17 (fun x => minor_sound_c1_O N x a0)).bind fun y19 => some y19)).bind fun b16 => bif b16 then (some false) else (req (in64 (p9 + 1)) ((minor_sound_l8 N y6 a0 m8) (p9 + 1)))) else (minor_sound_j4 N)
theorem minor_sound_l8_s {N m8 : Nat} {y6 : ((List DCell))} {a0 : DMemory} {p9 : Int} : minor_sound_l8 N y6 a0 (m8 + 1) p9 = bif decide (p9 < (y6.length : Int)) then ((getE y6 p9).bind fun x11 => (cell_Right_O N x11).bind fun y15 => (bif !y15 then (some true) else ((minor_addresses_O N x11).bind fun y17 => (slices_ContainsFunc_O N y17 (fun x => minor_sound_c1_O N x a0)).bind fun y19 => some y19)).bind fun b16 => bif b16 then (some false) else (req (in64 (p9 + 1)) ((minor_sound_l8 N y6 a0 m8) (p9 + 1)))) else (minor_sound_j4 N) := rfl
def minor_sound_O (N : Nat) (a0 : DMemory) : Option Bool :=
 (slices_Concat_Cell_O N a0.Young a0.Old).bind fun y6 => minor_sound_l8 N y6 a0 N 0
theorem minor_sound_ok {N : Nat} {a0 : DMemory} {r : Bool} (h : minor_sound_O N a0 = some r) {A1 : Option Addr} {n1 c1 : Nat} {A2 : Option Addr} {n2 c2 : Nat} : Okc Tryz.prog 152 [.agg #[.slice A1 n1 c1, .slice A2 n2 c2]] ([kS1 A1 n1 c1 a0.Young, kS1 A2 n2 c2 a0.Old]) (fun (u : Value) (post : List Chunk) => u = .bool r ∧ post = []) := by
 refine ok_E Tryz.func152 rfl rfl ?_
 simp only [envOf]
 refine run ?_
 refine gD (op_box rfl rfl) ?_
 rintro _ _ ⟨B3, rfl, rfl⟩
 refine run ?_
 refine G_joinF (fun s L => minor_sound_j4 N = some r ∧ s = [(2, .bool false)] ∧ L = []) ?_ ?_
 ·refine run ?_
  refine gD (op_bsliceB (cs := [.slice A1 n1 c1, .slice A2 n2 c2]) rfl (bsl_66_2 _ _ _ _ _ _)) ?_
  rintro _ _ ⟨B5, rfl, rfl⟩
  obtain ⟨y6, hy6, h⟩ := bind_elim h
  refine G_cv (cv_frzbox 0 rfl) ?_
  refine gD (op_call (slices_Concat_Cell_ok hy6) call187 rfl (cv_take [0, 2, 3] [] [0, 1, 2, 3] 4 rfl)) ?_
  rintro _ _ ⟨_, ⟨A7, n7, c7, rfl, rfl⟩, rfl⟩
  refine gR (rd_len 0 rfl els_own rfl Tryz.underlying22) ?_
  refine run ?_
  refine G_loopF (fun m s L => ∃ (p9 : Int), minor_sound_l8 N y6 a0 m p9 = some r ∧ s = [(1, pV B3 0), (2, .bool false), (10, .slice A7 n7 c7), (11, iV (y6.length : Int)), (12, iV p9)] ∧ L = [kO4 A7 n7 c7 y6, kS1 A1 n1 c1 a0.Young, kS1 A2 n2 c2 a0.Old, boxC B3 24 [.slice A1 n1 c1, .slice A2 n2 c2]]) N _ _ ⟨0, h, rfl, rfl⟩ sA (cv_sel [0, 3, 4, 2] 5 rfl rfl) ?_
  rintro (_ | m8) _ _ ⟨p9, h, rfl, rfl⟩
  ·exact none_some h
  rw [minor_sound_l8_s] at h
  refine run ?_
  refine G_seq ?_
  refine G_cond rfl (fun g10 => ?_) (fun g10 => ?_)
  ·replace h := cond_t g10 h
   refine run ?_
   refine G_seq ?_
   refine run ?_
   obtain ⟨x11, hx11, h⟩ := bind_elim h
   obtain ⟨lx11, ux11, hx11⟩ := getE_elim hx11
   refine gR (rd_idx 0 rfl els_own rfl rfl Tryz.underlying22 size32 lx11 ux11) ?_
   refine gD (op_elemA 0 rfl els_own rfl hx11 agg32 rfl (open_DCell x11)) ?_
   rintro u _ ⟨_, _, ⟨A12, n12, c12, A13, n13, c13, rfl, rfl⟩, hu, rfl⟩
   obtain rfl : u = .agg #[iV x11.Kind, iV x11.Shape, iV x11.Flags, iV x11.Age, .slice A12 n12 c12, .slice A13 n13 c13] := hu
   refine gD (op_alloc zero32 rfl) ?_
   rintro _ _ ⟨B14, rfl, rfl⟩
   refine gO (op_store (us := [iV x11.Kind, iV x11.Shape, iV x11.Flags, iV x11.Age, .slice A12 n12 c12, .slice A13 n13 c13]) (cs' := [iV x11.Kind, iV x11.Shape, iV x11.Flags, iV x11.Age, .slice A12 n12 c12, .slice A13 n13 c13]) 0 rfl rfl rfl rfl size32 rfl rfl rfl) ?_
   rintro _ _ rfl
   refine G_norm ([boxC B14 32 [iV x11.Kind, iV x11.Shape, iV x11.Flags, iV x11.Age, .slice A12 n12 c12, .slice A13 n13 c13], kS0 A12 n12 c12 x11.Slots, kS0 A13 n13 c13 x11.More, kO4 A7 n7 c7 y6, kS1 A1 n1 c1 a0.Young, kS1 A2 n2 c2 a0.Old, boxC B3 24 [.slice A1 n1 c1, .slice A2 n2 c2]]) rfl ?_
   refine run ?_
   refine gR (rd_boxS (us := [iV x11.Kind, iV x11.Shape, iV x11.Flags, iV x11.Age, .slice A12 n12 c12, .slice A13 n13 c13]) 0 rfl rfl agg32 rfl) ?_
   obtain ⟨y15, hy15, h⟩ := bind_elim h
   refine gD (op_callR (cell_Right_ok hy15) call53 rfl (mem_cons (lent_ro (i := 1) rfl rfl) (mem_cons (lent_ro (i := 2) rfl rfl) mem_nil)) cell_Right_free) ?_
   rintro _ _ ⟨_, ⟨rfl, rfl⟩, rfl⟩
   refine run ?_
   obtain ⟨b16, hb16, h⟩ := bind_elim h
   refine G_segb 5 24 b16 ?_ ?_
   ·clear h
    refine G_case 19 rfl (fun g16 => ?_) (fun g16 => ?_)
    ·have h := cond_t g16 hb16
     refine run ?_
     obtain rfl := Option.some.inj h
     exact G_joined sA (cv_sel [0, 1, 2, 3, 4, 5, 6] 7 rfl rfl)
    ·have h := cond_f g16 hb16
     refine G_rd (rd_boxS (us := [iV x11.Kind, iV x11.Shape, iV x11.Flags, iV x11.Age, .slice A12 n12 c12, .slice A13 n13 c13]) 0 rfl rfl agg32 rfl) rfl (g_ff g16 rfl) rfl ?_
     obtain ⟨y17, hy17, h⟩ := bind_elim h
     refine G_opd (op_callR (minor_addresses_ok hy17) call153 rfl (mem_cons (lent_ro (i := 1) rfl rfl) (mem_cons (lent_ro (i := 2) rfl rfl) mem_nil)) minor_addresses_free) rfl (g_ff g16 rfl) rfl ?_
     rintro _ _ ⟨_, ⟨A18, n18, c18, rfl, rfl⟩, rfl⟩
     refine G_ev (ev_makeFunc rfl) rfl (g_ff g16 rfl) rfl ?_
     obtain ⟨y19, hy19, h⟩ := bind_elim h
     refine G_opd (op_callR (slices_ContainsFunc_ok hy19 ⟨mem_cons rfl (mem_cons rfl (mem_cons rfl mem_nil)), 188, #[], #[pV B3 0], rfl, call188, fun _ _ hh => minor_sound_c1_ok hh⟩) call54 rfl (mem_cons (lent_own (i := 0) rfl) (mem_cons (lent_box (i := 7) rfl) (mem_cons (lent_ro (i := 5) rfl rfl) (mem_cons (lent_ro (i := 6) rfl rfl) mem_nil)))) slices_ContainsFunc_free) rfl (g_ff g16 rfl) rfl ?_
     rintro _ _ ⟨_, ⟨rfl, rfl⟩, rfl⟩
     refine run ?_
     obtain rfl := Option.some.inj h
     exact G_joined sA (cv_sel [1, 2, 3, 4, 5, 6, 7] 8 rfl rfl)
   refine run ?_
   refine G_cond rfl (fun g20 => ?_) (fun g20 => ?_)
   ·replace h := cond_t g20 h
    refine run ?_
    obtain rfl := Option.some.inj h
    exact endG1 rfl rfl (cv_sel [] 7 rfl rfl) ⟨rfl, rfl⟩
   ·replace h := cond_f g20 h
    refine run ?_
    obtain ⟨q21, h⟩ := req_elim h
    refine gE (ev_add rfl rfl q21.1 q21.2) ?_
    refine run ?_
    exact ⟨m8, _, _, Nat.lt_succ_self _, ⟨p9 + 1, h, rfl, rfl⟩, sA, cv_sel [3, 4, 5, 6] 7 rfl rfl⟩
  ·replace h := cond_f g10 h
   refine run ?_
   exact ⟨_, _, ⟨h, rfl, rfl⟩, sA, cv_sel [] 4 rfl rfl⟩
 ·rintro _ _ ⟨h, rfl, rfl⟩
  refine run ?_
  obtain rfl := Option.some.inj h
  exact endG1 rfl rfl (cv_sel [] 0 rfl rfl) ⟨rfl, rfl⟩
theorem minor_sound_free {r : Bool} : ∀ v post, ((fun (u : Value) (post : List Chunk) => u = .bool r ∧ post = [])) v post → ∀ c ∈ post, Free c := by
 rintro _ _ ⟨rfl, rfl⟩; exact mem_nil
def minor_young_O (N : Nat) (a0 : Int) : Option Bool :=
 (bif decide (0 < a0) then (some (decide (a0.tmod 2 = 1))) else (some false)).bind fun b1 => some b1
theorem minor_young_ok {N : Nat} {a0 : Int} {r : Bool} (h : minor_young_O N a0 = some r) : Okc Tryz.prog 105 [iV a0] ([]) (fun (u : Value) (post : List Chunk) => u = .bool r ∧ post = []) := by
 refine ok_E Tryz.func105 rfl rfl ?_
 simp only [envOf]
 refine run ?_
 obtain ⟨b1, hb1, h⟩ := bind_elim h
 refine G_segb 4 9 b1 ?_ ?_
 ·clear h
  refine G_case 5 rfl (fun g1 => ?_) (fun g1 => ?_)
  ·have h := cond_t g1 hb1
   refine run ?_
   refine G_ev (ev_rem rfl rfl (by decide)) rfl (g_tt g1 rfl) rfl ?_
   refine run ?_
   obtain rfl := Option.some.inj h
   exact G_joined sA (cv_sel [] 0 rfl rfl)
  ·have h := cond_f g1 hb1
   refine run ?_
   obtain rfl := Option.some.inj h
   exact G_joined sA (cv_sel [] 0 rfl rfl)
 refine run ?_
 obtain rfl := Option.some.inj h
 exact endG1 rfl rfl (cv_sel [] 0 rfl rfl) ⟨rfl, rfl⟩
theorem minor_young_free {r : Bool} : ∀ v post, ((fun (u : Value) (post : List Chunk) => u = .bool r ∧ post = [])) v post → ∀ c ∈ post, Free c := by
 rintro _ _ ⟨rfl, rfl⟩; exact mem_nil
end Go.Proofs.YtmbaennilhdieaaGreat