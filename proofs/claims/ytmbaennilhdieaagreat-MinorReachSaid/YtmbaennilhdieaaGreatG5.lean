/- Merged texts: part 5. No conditions of their own. -/
import Derived.Test.YtmbaennilhdieaaGreatG4
/- Pure functions and contracts of Go functions (printed by all3.py). -/
namespace Go.Proofs.YtmbaennilhdieaaGreat
open Go.RowKit Asn
set_option maxRecDepth 20000
def minor_may_j24 (N : Nat) : Option Bool :=
 some true
def minor_may_l25 (N : Nat) (a0 : DMemory) (a2 : (List Int)) : Nat → Int → Option Bool
 | 0, _ => none
 | m25 + 1, p26 => bif decide (p26 < (a0.Old.length : Int)) then ((getE a0.Old p26).bind fun x28 => (minor_addresses_O N x28).bind fun y33 => (slices_ContainsFunc_O N y33 (fun x => minor_young_O N x)).bind fun y35 => (bif y35 then (req (in64 (2 * p26)) (req (in64 ((2 * p26) + 2)) ((slices_Contains_O N a2 ((2 * p26) + 2)).bind fun y39 => some (!y39)))) else (some false)).bind fun b36 => bif b36 then (some false) else (req (in64 (p26 + 1)) ((minor_may_l25 N a0 a2 m25) (p26 + 1)))) else (minor_may_j24 N)
theorem minor_may_l25_s {N m25 : Nat} {a0 : DMemory} {a2 : (List Int)} {p26 : Int} : minor_may_l25 N a0 a2 (m25 + 1) p26 = bif decide (p26 < (a0.Old.length : Int)) then ((getE a0.Old p26).bind fun x28 => (minor_addresses_O N x28).bind fun y33 => (slices_ContainsFunc_O N y33 (fun x => minor_young_O N x)).bind fun y35 => (bif y35 then (req (in64 (2 * p26)) (req (in64 ((2 * p26) + 2)) ((slices_Contains_O N a2 ((2 * p26) + 2)).bind fun y39 => some (!y39)))) else (some false)).bind fun b36 => bif b36 then (some false) else (req (in64 (p26 + 1)) ((minor_may_l25 N a0 a2 m25) (p26 + 1)))) else (minor_may_j24 N) := rfl
def minor_may_j10 (N : Nat) (a2 : (List Int)) (a0 : DMemory) : Option Bool :=
 minor_may_l25 N a0 a2 N 0
def minor_may_l11 (N : Nat) (a2 : (List Int)) (a0 : DMemory) : Nat → Int → Option Bool
 | 0, _ => none
 | m11 + 1, p12 => bif decide (p12 < (a2.length : Int)) then ((getE a2 p12).bind fun x14 => (minor_young_O N x14).bind fun y15 => (bif y15 then (some true) else ((reach_Has_O N a0 x14).bind fun y17 => some (!y17))).bind fun b16 => (bif b16 then (some true) else ((bif decide (0 < p12) then (req (in64 (p12 - 1)) ((getE a2 (p12 - 1)).bind fun x21 => some (decide (x14 ≤ x21)))) else (some false)).bind fun b19 => some b19)).bind fun b18 => bif b18 then (some false) else (req (in64 (p12 + 1)) ((minor_may_l11 N a2 a0 m11) (p12 + 1)))) else (minor_may_j10 N a2 a0)
theorem minor_may_l11_s {N m11 : Nat} {a2 : (List Int)} {a0 : DMemory} {p12 : Int} : minor_may_l11 N a2 a0 (m11 + 1) p12 = bif decide (p12 < (a2.length : Int)) then ((getE a2 p12).bind fun x14 => (minor_young_O N x14).bind fun y15 => (bif y15 then (some true) else ((reach_Has_O N a0 x14).bind fun y17 => some (!y17))).bind fun b16 => (bif b16 then (some true) else ((bif decide (0 < p12) then (req (in64 (p12 - 1)) ((getE a2 (p12 - 1)).bind fun x21 => some (decide (x14 ≤ x21)))) else (some false)).bind fun b19 => some b19)).bind fun b18 => bif b18 then (some false) else (req (in64 (p12 + 1)) ((minor_may_l11 N a2 a0 m11) (p12 + 1)))) else (minor_may_j10 N a2 a0) := rfl
def minor_may_O (N : Nat) (a0 : DMemory) (a1 : (List DValue)) (a2 : (List Int)) : Option Bool :=
 (slices_ContainsFunc_Value_O N a1 (fun x => minor_may_c1_O N x a0)).bind fun y6 => (bif y6 then (some true) else ((minor_sound_O N a0).bind fun y8 => some (!y8))).bind fun b7 => bif b7 then (some false) else (minor_may_l11 N a2 a0 N 0)
theorem minor_may_ok {N : Nat} {a0 : DMemory} {a1 : (List DValue)} {a2 : (List Int)} {r : Bool} (h : minor_may_O N a0 a1 a2 = some r) {A1 : Option Addr} {n1 c1 : Nat} {A2 : Option Addr} {n2 c2 : Nat} {A3 : Option Addr} {n3 c3 : Nat} {A4 : Option Addr} {n4 c4 : Nat} : Okc Tryz.prog 95 [.agg #[.slice A1 n1 c1, .slice A2 n2 c2], .slice A3 n3 c3, .slice A4 n4 c4] ([kS1 A1 n1 c1 a0.Young, kS1 A2 n2 c2 a0.Old, kS0 A3 n3 c3 a1, kS5 A4 n4 c4 a2]) (fun (u : Value) (post : List Chunk) => u = .bool r ∧ post = []) := by
 refine ok_E Tryz.func95 rfl rfl ?_
 simp only [envOf]
 refine run ?_
 refine gD (op_box rfl rfl) ?_
 rintro _ _ ⟨B5, rfl, rfl⟩
 refine run ?_
 refine gE (ev_makeFunc rfl) ?_
 refine run ?_
 refine G_seq ?_
 refine run ?_
 obtain ⟨y6, hy6, h⟩ := bind_elim h
 refine gD (op_callR (slices_ContainsFunc_Value_ok hy6 ⟨mem_cons rfl (mem_cons rfl (mem_cons rfl mem_nil)), 149, #[], #[pV B5 0], rfl, call149, fun _ _ hh => minor_may_c1_ok hh⟩) call151 rfl (mem_cons (lent_ro (i := 3) rfl rfl) (mem_cons (lent_box (i := 0) rfl) (mem_cons (lent_ro (i := 1) rfl rfl) (mem_cons (lent_ro (i := 2) rfl rfl) mem_nil)))) slices_ContainsFunc_Value_free) ?_
 rintro _ _ ⟨_, ⟨rfl, rfl⟩, rfl⟩
 refine run ?_
 obtain ⟨b7, hb7, h⟩ := bind_elim h
 refine G_segb 4 20 b7 ?_ ?_
 ·clear h
  refine G_case 16 rfl (fun g7 => ?_) (fun g7 => ?_)
  ·have h := cond_t g7 hb7
   refine run ?_
   obtain rfl := Option.some.inj h
   exact G_joined sA (cv_sel [0, 1, 2, 3, 4] 5 rfl rfl)
  ·have h := cond_f g7 hb7
   refine G_rd (rd_boxS (us := [.slice A1 n1 c1, .slice A2 n2 c2]) 0 rfl rfl agg24 rfl) rfl (g_ff g7 rfl) rfl ?_
   obtain ⟨y8, hy8, h⟩ := bind_elim h
   refine G_opd (op_callR (minor_sound_ok hy8) call152 rfl (mem_cons (lent_ro (i := 1) rfl rfl) (mem_cons (lent_ro (i := 2) rfl rfl) mem_nil)) minor_sound_free) rfl (g_ff g7 rfl) rfl ?_
   rintro _ _ ⟨_, ⟨rfl, rfl⟩, rfl⟩
   refine run ?_
   obtain rfl := Option.some.inj h
   exact G_joined sA (cv_sel [0, 1, 2, 3, 4] 5 rfl rfl)
 refine run ?_
 refine G_cond rfl (fun g9 => ?_) (fun g9 => ?_)
 ·replace h := cond_t g9 h
  refine run ?_
  obtain rfl := Option.some.inj h
  exact endG1 rfl rfl (cv_sel [] 5 rfl rfl) ⟨rfl, rfl⟩
 ·replace h := cond_f g9 h
  refine run ?_
  refine G_joinF (fun s L => minor_may_j10 N a2 a0 = some r ∧ s = [(2, .slice A4 n4 c4), (3, pV B5 0), (6, .bool false)] ∧ L = [kS5 A4 n4 c4 a2, kS1 A1 n1 c1 a0.Young, kS1 A2 n2 c2 a0.Old, boxC B5 24 [.slice A1 n1 c1, .slice A2 n2 c2]]) ?_ ?_
  ·refine run ?_
   refine gR (rd_len 4 rfl els_sl rfl Tryz.underlying35) ?_
   refine run ?_
   refine G_loopF (fun m s L => ∃ (p12 : Int), minor_may_l11 N a2 a0 m p12 = some r ∧ s = [(2, .slice A4 n4 c4), (3, pV B5 0), (6, .bool false), (21, .slice A4 n4 c4), (22, iV (a2.length : Int)), (23, iV p12)] ∧ L = [kS5 A4 n4 c4 a2, kS1 A1 n1 c1 a0.Young, kS1 A2 n2 c2 a0.Old, boxC B5 24 [.slice A1 n1 c1, .slice A2 n2 c2]]) N _ _ ⟨0, h, rfl, rfl⟩ sA (cv_sel [4, 1, 2, 0] 5 rfl rfl) ?_
   rintro (_ | m11) _ _ ⟨p12, h, rfl, rfl⟩
   ·exact none_some h
   rw [minor_may_l11_s] at h
   refine run ?_
   refine G_seq ?_
   refine G_cond rfl (fun g13 => ?_) (fun g13 => ?_)
   ·replace h := cond_t g13 h
    refine run ?_
    refine G_seq ?_
    refine run ?_
    obtain ⟨x14, hx14, h⟩ := bind_elim h
    obtain ⟨lx14, ux14, hx14⟩ := getE_elim hx14
    refine gR (rd_idx 0 rfl els_sl rfl rfl Tryz.underlying35 size3 lx14 ux14) ?_
    refine gR (rd_elem1 (u := iV x14) 0 rfl els_sl rfl hx14 one3 (fun _ _ _ h => by rw [show _ = _ from h]; rfl)) ?_
    refine run ?_
    obtain ⟨y15, hy15, h⟩ := bind_elim h
    refine gD (op_callR (minor_young_ok hy15) call105 rfl (mem_nil) minor_young_free) ?_
    rintro _ _ ⟨_, ⟨rfl, rfl⟩, rfl⟩
    refine run ?_
    obtain ⟨b16, hb16, h⟩ := bind_elim h
    refine G_segb 5 35 b16 ?_ ?_
    ·clear h
     refine G_case 30 rfl (fun g16 => ?_) (fun g16 => ?_)
     ·have h := cond_t g16 hb16
      refine run ?_
      obtain rfl := Option.some.inj h
      exact G_joined sA (cv_sel [0, 1, 2, 3] 4 rfl rfl)
     ·have h := cond_f g16 hb16
      refine G_rd (rd_boxS (us := [.slice A1 n1 c1, .slice A2 n2 c2]) 3 rfl rfl agg24 rfl) rfl (g_ff g16 rfl) rfl ?_
      refine run ?_
      obtain ⟨y17, hy17, h⟩ := bind_elim h
      refine G_opd (op_callR (reach_Has_ok hy17) call13 rfl (mem_cons (lent_ro (i := 1) rfl rfl) (mem_cons (lent_ro (i := 2) rfl rfl) mem_nil)) reach_Has_free) rfl (g_ff g16 rfl) rfl ?_
      rintro _ _ ⟨_, ⟨rfl, rfl⟩, rfl⟩
      refine run ?_
      obtain rfl := Option.some.inj h
      exact G_joined sA (cv_sel [0, 1, 2, 3] 4 rfl rfl)
    refine run ?_
    obtain ⟨b18, hb18, h⟩ := bind_elim h
    refine G_segb 12 48 b18 ?_ ?_
    ·clear h
     refine G_case 36 rfl (fun g18 => ?_) (fun g18 => ?_)
     ·have h := cond_t g18 hb18
      refine run ?_
      obtain rfl := Option.some.inj h
      exact G_joined sA (cv_sel [0, 1, 2, 3] 4 rfl rfl)
     ·have h := cond_f g18 hb18
      refine run ?_
      obtain ⟨b19, hb19, h⟩ := bind_elim h
      refine G_segb 8 47 b19 ?_ ?_
      ·clear h
       refine G_case 39 rfl (fun g19 => ?_) (fun g19 => ?_)
       ·have h := cond_t g19 hb19
        refine run ?_
        obtain ⟨q20, h⟩ := req_elim h
        refine G_ev (ev_sub rfl rfl q20.1 q20.2) rfl (g_tt g19 rfl) rfl ?_
        obtain ⟨x21, hx21, h⟩ := bind_elim h
        obtain ⟨lx21, ux21, hx21⟩ := getE_elim hx21
        refine G_rd (rd_idx 0 rfl els_sl rfl rfl Tryz.underlying35 size3 lx21 ux21) rfl (g_tt g19 rfl) rfl ?_
        refine G_rd (rd_elem1 (u := iV x21) 0 rfl els_sl rfl hx21 one3 (fun _ _ _ h => by rw [show _ = _ from h]; rfl)) rfl (g_tt g19 rfl) rfl ?_
        refine run ?_
        obtain rfl := Option.some.inj h
        exact G_joined sA (cv_sel [0, 1, 2, 3] 4 rfl rfl)
       ·have h := cond_f g19 hb19
        refine run ?_
        obtain rfl := Option.some.inj h
        exact G_joined sA (cv_sel [0, 1, 2, 3] 4 rfl rfl)
      refine run ?_
      obtain rfl := Option.some.inj h
      exact G_joined sA (cv_sel [0, 1, 2, 3] 4 rfl rfl)
    refine run ?_
    refine G_cond rfl (fun g22 => ?_) (fun g22 => ?_)
    ·replace h := cond_t g22 h
     refine run ?_
     obtain rfl := Option.some.inj h
     exact endG1 rfl rfl (cv_sel [] 4 rfl rfl) ⟨rfl, rfl⟩
    ·replace h := cond_f g22 h
     refine run ?_
     obtain ⟨q23, h⟩ := req_elim h
     refine gE (ev_add rfl rfl q23.1 q23.2) ?_
     refine run ?_
     exact ⟨m11, _, _, Nat.lt_succ_self _, ⟨p12 + 1, h, rfl, rfl⟩, sA, cv_sel [0, 1, 2, 3] 4 rfl rfl⟩
   ·replace h := cond_f g13 h
    refine run ?_
    exact ⟨_, _, ⟨h, rfl, rfl⟩, sA, cv_sel [0, 1, 2, 3] 4 rfl rfl⟩
  ·rintro _ _ ⟨h, rfl, rfl⟩
   refine G_joinF (fun s L => minor_may_j24 N = some r ∧ s = [(6, .bool false)] ∧ L = []) ?_ ?_
   ·refine run ?_
    refine gR (rd_len 2 rfl els_sl rfl Tryz.underlying22) ?_
    refine run ?_
    refine G_loopF (fun m s L => ∃ (p26 : Int), minor_may_l25 N a0 a2 m p26 = some r ∧ s = [(2, .slice A4 n4 c4), (6, .bool false), (51, .slice A2 n2 c2), (52, iV (a0.Old.length : Int)), (53, iV p26)] ∧ L = [kS5 A4 n4 c4 a2, kS1 A2 n2 c2 a0.Old]) N _ _ ⟨0, h, rfl, rfl⟩ sA (cv_sel [0, 2] 4 rfl rfl) ?_
    rintro (_ | m25) _ _ ⟨p26, h, rfl, rfl⟩
    ·exact none_some h
    rw [minor_may_l25_s] at h
    refine run ?_
    refine G_seq ?_
    refine G_cond rfl (fun g27 => ?_) (fun g27 => ?_)
    ·replace h := cond_t g27 h
     refine run ?_
     refine G_seq ?_
     refine run ?_
     obtain ⟨x28, hx28, h⟩ := bind_elim h
     obtain ⟨lx28, ux28, hx28⟩ := getE_elim hx28
     refine gR (rd_idx 1 rfl els_sl rfl rfl Tryz.underlying22 size32 lx28 ux28) ?_
     refine G_row 1 rfl hx28 (open_DCell x28) ?_
     rintro _ _ ⟨A29, n29, c29, A30, n30, c30, rfl, rfl⟩
     refine gR (rd_rowS (us := [iV x28.Kind, iV x28.Shape, iV x28.Flags, iV x28.Age, .slice A29 n29 c29, .slice A30 n30 c30]) 0 rfl rfl agg32 rfl) ?_
     refine gD (op_alloc zero32 rfl) ?_
     rintro _ _ ⟨B32, rfl, rfl⟩
     refine run ?_
     refine gO (op_store (us := [iV x28.Kind, iV x28.Shape, iV x28.Flags, iV x28.Age, .slice A29 n29 c29, .slice A30 n30 c30]) (cs' := [iV x28.Kind, iV x28.Shape, iV x28.Flags, iV x28.Age, .slice A29 n29 c29, .slice A30 n30 c30]) 0 rfl rfl rfl rfl size32 rfl rfl rfl) ?_
     rintro _ _ rfl
     refine run ?_
     refine gR (rd_boxS (us := [iV x28.Kind, iV x28.Shape, iV x28.Flags, iV x28.Age, .slice A29 n29 c29, .slice A30 n30 c30]) 0 rfl rfl agg32 rfl) ?_
     obtain ⟨y33, hy33, h⟩ := bind_elim h
     refine gD (op_callR (minor_addresses_ok hy33) call153 rfl (mem_cons (lent_ro (i := 2) rfl rfl) (mem_cons (lent_ro (i := 3) rfl rfl) mem_nil)) minor_addresses_free) ?_
     rintro _ _ ⟨_, ⟨A34, n34, c34, rfl, rfl⟩, rfl⟩
     obtain ⟨y35, hy35, h⟩ := bind_elim h
     refine gD (op_callR (slices_ContainsFunc_ok hy35 ⟨mem_nil, 105, #[], #[], rfl, call105, fun _ _ hh => minor_young_ok hh⟩) call54 rfl (mem_cons (lent_own (i := 0) rfl) mem_nil) slices_ContainsFunc_free) ?_
     rintro _ _ ⟨_, ⟨rfl, rfl⟩, rfl⟩
     refine run ?_
     obtain ⟨b36, hb36, h⟩ := bind_elim h
     refine G_segb 7 68 b36 ?_ ?_
     ·clear h
      refine G_case 61 rfl (fun g36 => ?_) (fun g36 => ?_)
      ·have h := cond_t g36 hb36
       refine run ?_
       obtain ⟨q37, h⟩ := req_elim h
       refine G_ev (ev_mul rfl rfl q37.1 q37.2) rfl (g_tt g36 rfl) rfl ?_
       obtain ⟨q38, h⟩ := req_elim h
       refine G_ev (ev_add rfl rfl q38.1 q38.2) rfl (g_tt g36 rfl) rfl ?_
       obtain ⟨y39, hy39, h⟩ := bind_elim h
       refine G_opd (op_callR (slices_Contains_ok hy39) call101 rfl (mem_cons (lent_ro (i := 5) rfl rfl) mem_nil) slices_Contains_free) rfl (g_tt g36 rfl) rfl ?_
       rintro _ _ ⟨_, ⟨rfl, rfl⟩, rfl⟩
       refine run ?_
       obtain rfl := Option.some.inj h
       exact G_joined sA (cv_sel [0, 1, 2, 3, 4, 5, 6] 7 rfl rfl)
      ·have h := cond_f g36 hb36
       refine run ?_
       obtain rfl := Option.some.inj h
       exact G_joined sA (cv_sel [0, 1, 2, 3, 4, 5, 6] 7 rfl rfl)
     refine run ?_
     refine G_cond rfl (fun g40 => ?_) (fun g40 => ?_)
     ·replace h := cond_t g40 h
      refine run ?_
      obtain rfl := Option.some.inj h
      exact endG1 rfl rfl (cv_sel [] 7 rfl rfl) ⟨rfl, rfl⟩
     ·replace h := cond_f g40 h
      refine run ?_
      obtain ⟨q41, h⟩ := req_elim h
      refine gE (ev_add rfl rfl q41.1 q41.2) ?_
      refine run ?_
      exact ⟨m25, _, _, Nat.lt_succ_self _, ⟨p26 + 1, h, rfl, rfl⟩, sA, cv_sel [5, 6] 7 rfl rfl⟩
    ·replace h := cond_f g27 h
     refine run ?_
     exact ⟨_, _, ⟨h, rfl, rfl⟩, sA, cv_sel [] 2 rfl rfl⟩
   ·rintro _ _ ⟨h, rfl, rfl⟩
    refine run ?_
    obtain rfl := Option.some.inj h
    exact endG1 rfl rfl (cv_sel [] 0 rfl rfl) ⟨rfl, rfl⟩
theorem minor_may_free {r : Bool} : ∀ v post, ((fun (u : Value) (post : List Chunk) => u = .bool r ∧ post = [])) v post → ∀ c ∈ post, Free c := by
 rintro _ _ ⟨rfl, rfl⟩; exact mem_nil
def minor_meeter_meet_O (N : Nat) (a0 : DMeeter) (a1 : Int) : Option DMeeter :=
 (minor_young_O N a1).bind fun y7 => (bif y7 then (some (!((lk a0.seen_ a1).getD false))) else (some false)).bind fun b8 => bif b8 then (req (fitsL (a0.met_.length + ([a1] : List Int).length)) (some (⟨a0.m_, a0.kept_, a0.met_ ++ ([a1] : List Int), upL a0.seen_ a1 true, a0.next_⟩ : DMeeter))) else (some a0)
theorem minor_meeter_meet_ok {N : Nat} {a0 : DMeeter} {a1 : Int} {r : DMeeter} (h : minor_meeter_meet_O N a0 a1 = some r) {A2 : Option Addr} {n2 c2 : Nat} {A3 : Option Addr} {n3 c3 : Nat} {A4 : Option Addr} {n4 c4 : Nat} {B1 : Nat} {A5 : Option Addr} {n5 c5 : Nat} {M6 : Nat} : Okc Tryz.prog 154 [pV B1 0, iV a1] ([kS1 A2 n2 c2 a0.m_.Young, kS1 A3 n3 c3 a0.m_.Old, kS5 A4 n4 c4 a0.kept_, boxC B1 109 [.slice A2 n2 c2, .slice A3 n3 c3, .slice A4 n4 c4, .slice A5 n5 c5, .map (some M6), iV a0.next_], kO2 A5 n5 c5 a0.met_, mapC ekI evB M6 a0.seen_]) (fun (u : Value) (post : List Chunk) => ∃ A0 n0 c0 A1 n1 c1 A2 n2 c2 A3 n3 c3 M4, u = .tuple #[] ∧ post = [boxC B1 109 [.slice A0 n0 c0, .slice A1 n1 c1, .slice A2 n2 c2, .slice A3 n3 c3, .map (some M4), iV r.next_], kS1 A0 n0 c0 r.m_.Young, kS1 A1 n1 c1 r.m_.Old, kS5 A2 n2 c2 r.kept_, kO2 A3 n3 c3 r.met_, mapC ekI evB M4 r.seen_]) := by
 refine ok_E Tryz.func154 rfl rfl ?_
 simp only [envOf]
 refine run ?_
 obtain ⟨y7, hy7, h⟩ := bind_elim h
 refine gD (op_callR (minor_young_ok hy7) call105 rfl (mem_nil) minor_young_free) ?_
 rintro _ _ ⟨_, ⟨rfl, rfl⟩, rfl⟩
 refine run ?_
 obtain ⟨b8, hb8, h⟩ := bind_elim h
 refine G_segb 8 14 b8 ?_ ?_
 ·clear h
  refine G_case 6 rfl (fun g8 => ?_) (fun g8 => ?_)
  ·have h := cond_t g8 hb8
   refine run ?_
   refine G_rd (rd_look1 (a := a1) (z := false) 5 rfl map_rw rfl rfl Tryz.underlying107 (keyOk_int Tryz.underlying3) zero4) rfl (g_tt g8 rfl) rfl ?_
   refine run ?_
   obtain rfl := Option.some.inj h
   exact G_joined sA (cv_sel [0, 1, 2, 3, 4, 5] 6 rfl rfl)
  ·have h := cond_f g8 hb8
   refine run ?_
   obtain rfl := Option.some.inj h
   exact G_joined sA (cv_sel [0, 1, 2, 3, 4, 5] 6 rfl rfl)
 refine run ?_
 refine G_cond rfl (fun g9 => ?_) (fun g9 => ?_)
 ·replace h := cond_t g9 h
  refine run ?_
  refine gO (op_mapUpdate (a := a1) (b := true) 5 rfl rfl rfl rfl Tryz.underlying107 (keyOk_int Tryz.underlying3)) ?_
  rintro _ _ rfl
  refine run ?_
  refine gD (op_bslice (R := (rInt .i64)) (vss := [[iV a1]]) (xs := [a1]) rfl (bsl_35_1 _) rfl rfl (fun _ _ hr => .cons rfl All2.nil)) ?_
  rintro _ _ ⟨A10, n10, c10, rfl, rfl⟩
  obtain ⟨q11, h⟩ := req_elim h
  refine gD (op_append 5 0 rfl rfl els_own rfl rfl Tryz.underlying35 zb3 rfl rfl q11) ?_
  rintro _ _ ⟨A12, n12, c12, rfl, rfl⟩
  refine run ?_
  refine gO (op_store (us := [.slice A12 n12 c12]) (cs' := [.slice A2 n2 c2, .slice A3 n3 c3, .slice A4 n4 c4, .slice A12 n12 c12, .map (some M6), iV a0.next_]) 4 rfl rfl rfl rfl size35 rfl rfl rfl) ?_
  rintro _ _ rfl
  refine G_norm ([kO2 A10 n10 c10 ([a1] : List Int), kS1 A2 n2 c2 a0.m_.Young, kS1 A3 n3 c3 a0.m_.Old, kS5 A4 n4 c4 a0.kept_, boxC B1 109 [.slice A2 n2 c2, .slice A3 n3 c3, .slice A4 n4 c4, .slice A12 n12 c12, .map (some M6), iV a0.next_], kO2 A12 n12 c12 (a0.met_ ++ ([a1] : List Int)), mapC ekI evB M6 (upL a0.seen_ a1 true)]) rfl ?_
  refine G_nil ?_
  obtain rfl := Option.some.inj h
  exact endG0n rfl (cv_sel [4, 1, 2, 3, 5, 6] 7 rfl rfl) ⟨_, _, _, _, _, _, _, _, _, _, _, _, _, rfl, rfl⟩
 ·replace h := cond_f g9 h
  refine G_skip ?_
  obtain rfl := Option.some.inj h
  exact endG0n rfl (cv_sel [3, 0, 1, 2, 4, 5] 6 rfl rfl) ⟨_, _, _, _, _, _, _, _, _, _, _, _, _, rfl, rfl⟩
def minor_meeter_cell_O (N : Nat) (a0 : DMeeter) (a1 : Int) : Option DCell :=
 (minor_young_O N a1).bind fun y8 => bif y8 then (req (in64 (a1.tdiv 2)) ((getE a0.m_.Young (a1.tdiv 2)).bind fun x11 => some x11)) else (req (in64 (a1.tdiv 2)) (req (in64 ((a1.tdiv 2) - 1)) ((getE a0.m_.Old ((a1.tdiv 2) - 1)).bind fun x17 => some x17)))
theorem minor_meeter_cell_ok {N : Nat} {a0 : DMeeter} {a1 : Int} {r : DCell} (h : minor_meeter_cell_O N a0 a1 = some r) {A2 : Option Addr} {n2 c2 : Nat} {A3 : Option Addr} {n3 c3 : Nat} {A4 : Option Addr} {n4 c4 : Nat} {B1 : Nat} {A5 : Option Addr} {n5 c5 : Nat} {M6 : Nat} : Okc Tryz.prog 104 [pV B1 0, iV a1] ([kS1 A2 n2 c2 a0.m_.Young, kS1 A3 n3 c3 a0.m_.Old, kS5 A4 n4 c4 a0.kept_, boxC B1 109 [.slice A2 n2 c2, .slice A3 n3 c3, .slice A4 n4 c4, .slice A5 n5 c5, .map (some M6), iV a0.next_], kO2 A5 n5 c5 a0.met_, mapC ekI evB M6 a0.seen_]) (fun (u : Value) (post : List Chunk) => ∃ A0 n0 c0 A1 n1 c1, u = .agg #[iV r.Kind, iV r.Shape, iV r.Flags, iV r.Age, .slice A0 n0 c0, .slice A1 n1 c1] ∧ post = [kS0 A0 n0 c0 r.Slots, kS0 A1 n1 c1 r.More, boxC B1 109 [.slice A2 n2 c2, .slice A3 n3 c3, .slice A4 n4 c4, .slice A5 n5 c5, .map (some M6), iV a0.next_], kO2 A5 n5 c5 a0.met_, mapC ekI evB M6 a0.seen_]) := by
 refine ok_E Tryz.func104 rfl rfl ?_
 simp only [envOf]
 refine run ?_
 refine gD (op_alloc zero32 rfl) ?_
 rintro _ _ ⟨B7, rfl, rfl⟩
 refine run ?_
 refine G_seq ?_
 refine run ?_
 obtain ⟨y8, hy8, h⟩ := bind_elim h
 refine gD (op_callR (minor_young_ok hy8) call105 rfl (mem_nil) minor_young_free) ?_
 rintro _ _ ⟨_, ⟨rfl, rfl⟩, rfl⟩
 refine run ?_
 refine G_cond rfl (fun g9 => ?_) (fun g9 => ?_)
 ·replace h := cond_t g9 h
  refine run ?_
  obtain ⟨q10, h⟩ := req_elim h
  refine gE (ev_quo rfl rfl (by decide) q10.1 q10.2) ?_
  obtain ⟨x11, hx11, h⟩ := bind_elim h
  obtain ⟨lx11, ux11, hx11⟩ := getE_elim hx11
  refine gR (rd_idx 1 rfl els_sl rfl rfl Tryz.underlying22 size32 lx11 ux11) ?_
  refine G_row 1 rfl hx11 (open_DCell x11) ?_
  rintro _ _ ⟨A12, n12, c12, A13, n13, c13, rfl, rfl⟩
  refine gR (rd_rowS (us := [iV x11.Kind, iV x11.Shape, iV x11.Flags, iV x11.Age, .slice A12 n12 c12, .slice A13 n13 c13]) 0 rfl rfl agg32 rfl) ?_
  refine gO (op_store (us := [iV x11.Kind, iV x11.Shape, iV x11.Flags, iV x11.Age, .slice A12 n12 c12, .slice A13 n13 c13]) (cs' := [iV x11.Kind, iV x11.Shape, iV x11.Flags, iV x11.Age, .slice A12 n12 c12, .slice A13 n13 c13]) 3 rfl rfl rfl rfl size32 rfl rfl rfl) ?_
  rintro _ _ rfl
  refine run ?_
  obtain rfl := Option.some.inj h
  exact endGl (rs := [.cell 4 32]) (vs := [.agg #[iV x11.Kind, iV x11.Shape, iV x11.Flags, iV x11.Age, .slice A12 n12 c12, .slice A13 n13 c13]]) rfl (.cons (rv_boxS 3 rfl rfl agg32) .nil) rfl (cv_sel [1, 2, 7, 8, 9] 10 rfl rfl) ⟨_, _, _, _, _, _, rfl, rfl⟩
 ·replace h := cond_f g9 h
  refine run ?_
  obtain ⟨q15, h⟩ := req_elim h
  refine gE (ev_quo rfl rfl (by decide) q15.1 q15.2) ?_
  obtain ⟨q16, h⟩ := req_elim h
  refine gE (ev_sub rfl rfl q16.1 q16.2) ?_
  obtain ⟨x17, hx17, h⟩ := bind_elim h
  obtain ⟨lx17, ux17, hx17⟩ := getE_elim hx17
  refine gR (rd_idx 2 rfl els_sl rfl rfl Tryz.underlying22 size32 lx17 ux17) ?_
  refine G_row 2 rfl hx17 (open_DCell x17) ?_
  rintro _ _ ⟨A18, n18, c18, A19, n19, c19, rfl, rfl⟩
  refine gR (rd_rowS (us := [iV x17.Kind, iV x17.Shape, iV x17.Flags, iV x17.Age, .slice A18 n18 c18, .slice A19 n19 c19]) 0 rfl rfl agg32 rfl) ?_
  refine gO (op_store (us := [iV x17.Kind, iV x17.Shape, iV x17.Flags, iV x17.Age, .slice A18 n18 c18, .slice A19 n19 c19]) (cs' := [iV x17.Kind, iV x17.Shape, iV x17.Flags, iV x17.Age, .slice A18 n18 c18, .slice A19 n19 c19]) 3 rfl rfl rfl rfl size32 rfl rfl rfl) ?_
  rintro _ _ rfl
  refine run ?_
  obtain rfl := Option.some.inj h
  exact endGl (rs := [.cell 4 32]) (vs := [.agg #[iV x17.Kind, iV x17.Shape, iV x17.Flags, iV x17.Age, .slice A18 n18 c18, .slice A19 n19 c19]]) rfl (.cons (rv_boxS 3 rfl rfl agg32) .nil) rfl (cv_sel [1, 2, 7, 8, 9] 10 rfl rfl) ⟨_, _, _, _, _, _, rfl, rfl⟩
def minor_meeter_through_j15 (N : Nat) (kb7 : (List DCell) → (List DCell) → (List Int) → (List Int) → (List (Int × Bool)) → Int → Option DMeeter) (p16 : (List DCell)) (p17 : (List DCell)) (p18 : (List Int)) (p19 : (List Int)) (p20 : (List (Int × Bool))) (p21 : Int) : Option DMeeter :=
 req (in64 (p21 + 1)) (kb7 p16 p17 p18 p19 p20 (p21 + 1))
def minor_meeter_through_l31 (N : Nat) (kb7 : (List DCell) → (List DCell) → (List Int) → (List Int) → (List (Int × Bool)) → Int → Option DMeeter) (y28 : ((List Int))) : Nat → Int → (List DCell) → (List DCell) → (List Int) → (List Int) → (List (Int × Bool)) → Int → Option DMeeter
 | 0, _, _, _, _, _, _, _ => none
 | m31 + 1, p32, p33, p34, p35, p36, p37, p38 => bif decide (p32 < (y28.length : Int)) then ((getE y28 p32).bind fun x40 => (minor_meeter_meet_O N (⟨(⟨p33, p34⟩ : DMemory), p35, p36, p37, p38⟩ : DMeeter) x40).bind fun y41 => req (in64 (p32 + 1)) ((minor_meeter_through_l31 N kb7 y28 m31) (p32 + 1) y41.m_.Young y41.m_.Old y41.kept_ y41.met_ y41.seen_ y41.next_)) else (minor_meeter_through_j15 N kb7 p33 p34 p35 p36 p37 p38)
theorem minor_meeter_through_l31_s {N m31 : Nat} {kb7 : (List DCell) → (List DCell) → (List Int) → (List Int) → (List (Int × Bool)) → Int → Option DMeeter} {y28 : ((List Int))} {p32 : Int} {p33 : (List DCell)} {p34 : (List DCell)} {p35 : (List Int)} {p36 : (List Int)} {p37 : (List (Int × Bool))} {p38 : Int} : minor_meeter_through_l31 N kb7 y28 (m31 + 1) p32 p33 p34 p35 p36 p37 p38 = bif decide (p32 < (y28.length : Int)) then ((getE y28 p32).bind fun x40 => (minor_meeter_meet_O N (⟨(⟨p33, p34⟩ : DMemory), p35, p36, p37, p38⟩ : DMeeter) x40).bind fun y41 => req (in64 (p32 + 1)) ((minor_meeter_through_l31 N kb7 y28 m31) (p32 + 1) y41.m_.Young y41.m_.Old y41.kept_ y41.met_ y41.seen_ y41.next_)) else (minor_meeter_through_j15 N kb7 p33 p34 p35 p36 p37 p38) := rfl
def minor_meeter_through_l7 (N : Nat) : Nat → (List DCell) → (List DCell) → (List Int) → (List Int) → (List (Int × Bool)) → Int → Option DMeeter
 | 0, _, _, _, _, _, _ => none
 | m7 + 1, p8, p9, p10, p11, p12, p13 => bif decide (p13 < (p11.length : Int)) then ((getE p11 p13).bind fun x22 => (minor_meeter_cell_O N (⟨(⟨p8, p9⟩ : DMemory), p10, p11, p12, p13⟩ : DMeeter) x22).bind fun y23 => (cell_Leads_O N y23).bind fun y28 => minor_meeter_through_l31 N (minor_meeter_through_l7 N m7) y28 N 0 p8 p9 p10 p11 p12 p13) else (some (⟨(⟨p8, p9⟩ : DMemory), p10, p11, p12, p13⟩ : DMeeter))
theorem minor_meeter_through_l7_s {N m7 : Nat} {p8 : (List DCell)} {p9 : (List DCell)} {p10 : (List Int)} {p11 : (List Int)} {p12 : (List (Int × Bool))} {p13 : Int} : minor_meeter_through_l7 N (m7 + 1) p8 p9 p10 p11 p12 p13 = bif decide (p13 < (p11.length : Int)) then ((getE p11 p13).bind fun x22 => (minor_meeter_cell_O N (⟨(⟨p8, p9⟩ : DMemory), p10, p11, p12, p13⟩ : DMeeter) x22).bind fun y23 => (cell_Leads_O N y23).bind fun y28 => minor_meeter_through_l31 N (minor_meeter_through_l7 N m7) y28 N 0 p8 p9 p10 p11 p12 p13) else (some (⟨(⟨p8, p9⟩ : DMemory), p10, p11, p12, p13⟩ : DMeeter)) := rfl
def minor_meeter_through_O (N : Nat) (a0 : DMeeter) : Option DMeeter :=
 minor_meeter_through_l7 N N a0.m_.Young a0.m_.Old a0.kept_ a0.met_ a0.seen_ a0.next_
theorem minor_meeter_through_ok {N : Nat} {a0 : DMeeter} {r : DMeeter} (h : minor_meeter_through_O N a0 = some r) {A2 : Option Addr} {n2 c2 : Nat} {A3 : Option Addr} {n3 c3 : Nat} {A4 : Option Addr} {n4 c4 : Nat} {B1 : Nat} {A5 : Option Addr} {n5 c5 : Nat} {M6 : Nat} : Okc Tryz.prog 155 [pV B1 0] ([kS1 A2 n2 c2 a0.m_.Young, kS1 A3 n3 c3 a0.m_.Old, kS5 A4 n4 c4 a0.kept_, boxC B1 109 [.slice A2 n2 c2, .slice A3 n3 c3, .slice A4 n4 c4, .slice A5 n5 c5, .map (some M6), iV a0.next_], kO2 A5 n5 c5 a0.met_, mapC ekI evB M6 a0.seen_]) (fun (u : Value) (post : List Chunk) => ∃ A0 n0 c0 A1 n1 c1 A2 n2 c2 A3 n3 c3 M4, u = .tuple #[] ∧ post = [boxC B1 109 [.slice A0 n0 c0, .slice A1 n1 c1, .slice A2 n2 c2, .slice A3 n3 c3, .map (some M4), iV r.next_], kS1 A0 n0 c0 r.m_.Young, kS1 A1 n1 c1 r.m_.Old, kS5 A2 n2 c2 r.kept_, kO2 A3 n3 c3 r.met_, mapC ekI evB M4 r.seen_]) := by
 refine ok_E Tryz.func155 rfl rfl ?_
 simp only [envOf]
 refine G_block ?_
 refine G_loopF (fun m s L => ∃ (p8 : (List DCell)) (p9 : (List DCell)) (p10 : (List Int)) (p11 : (List Int)) (p12 : (List (Int × Bool))) (p13 : Int) (A8 : Option Addr) (n8 c8 : Nat) (A9 : Option Addr) (n9 c9 : Nat) (A10 : Option Addr) (n10 c10 : Nat) (A11 : Option Addr) (n11 c11 : Nat) (M12 : Nat), minor_meeter_through_l7 N m p8 p9 p10 p11 p12 p13 = some r ∧ s = [(0, pV B1 0)] ∧ L = [kS1 A8 n8 c8 p8, kS1 A9 n9 c9 p9, kS5 A10 n10 c10 p10, kO2 A11 n11 c11 p11, mapC ekI evB M12 p12, boxC B1 109 [.slice A8 n8 c8, .slice A9 n9 c9, .slice A10 n10 c10, .slice A11 n11 c11, .map (some M12), iV p13]]) N _ _ ⟨a0.m_.Young, a0.m_.Old, a0.kept_, a0.met_, a0.seen_, a0.next_, A2, n2, c2, A3, n3, c3, A4, n4, c4, A5, n5, c5, M6, h, rfl, rfl⟩ sA (cv_sel [0, 1, 2, 4, 5, 3] 6 rfl rfl) ?_
 rintro (_ | m7) _ _ ⟨p8, p9, p10, p11, p12, p13, A8, n8, c8, A9, n9, c9, A10, n10, c10, A11, n11, c11, M12, h, rfl, rfl⟩
 ·exact none_some h
 rw [minor_meeter_through_l7_s] at h
 refine G_seq ?_
 refine G_seq ?_
 refine G_drawn (by kernel_rfl) _ (cv_refl _) ?_
 refine T3_ev 0 rfl (by kernel_rfl) (ev_move rfl) rfl rfl ?_
 refine T3_ev 1 rfl (by kernel_rfl) (ev_nilCheck rfl) rfl rfl ?_
 refine T3_ev 2 rfl (by kernel_rfl) (ev_fa rfl fa_109_4) rfl rfl ?_
 refine T3_rd 3 rfl (by kernel_rfl) (rd_box1 5 rfl rfl one3 rfl) rfl rfl ?_
 refine T3_ev 4 rfl (by kernel_rfl) (ev_move rfl) rfl rfl ?_
 refine T3_ev 5 rfl (by kernel_rfl) (ev_nilCheck rfl) rfl rfl ?_
 refine T3_ev 6 rfl (by kernel_rfl) (ev_fa rfl fa_109_2) rfl rfl ?_
 refine T3_rd 7 rfl (by kernel_rfl) (rd_box1 5 rfl rfl one35 rfl) rfl rfl ?_
 refine T3_rd 8 rfl (by kernel_rfl) (rd_len 3 rfl els_own rfl Tryz.underlying35) rfl rfl ?_
 refine T3_ev 9 rfl (by kernel_rfl) (ev_lt rfl rfl) rfl rfl ?_
 refine T3_done (by kernel_rfl) ?_
 refine nx_n ?_
 refine G_cond rfl (fun g14 => ?_) (fun g14 => ?_)
 ·replace h := cond_t g14 h
  refine run ?_
  refine G_joinF (fun s L => ∃ (p16 : (List DCell)) (p17 : (List DCell)) (p18 : (List Int)) (p19 : (List Int)) (p20 : (List (Int × Bool))) (p21 : Int) (A16 : Option Addr) (n16 c16 : Nat) (A17 : Option Addr) (n17 c17 : Nat) (A18 : Option Addr) (n18 c18 : Nat) (A19 : Option Addr) (n19 c19 : Nat) (M20 : Nat), minor_meeter_through_j15 N (minor_meeter_through_l7 N m7) p16 p17 p18 p19 p20 p21 = some r ∧ s = [(0, pV B1 0)] ∧ L = [kS1 A16 n16 c16 p16, kS1 A17 n17 c17 p17, kS5 A18 n18 c18 p18, kO2 A19 n19 c19 p19, mapC ekI evB M20 p20, boxC B1 109 [.slice A16 n16 c16, .slice A17 n17 c17, .slice A18 n18 c18, .slice A19 n19 c19, .map (some M20), iV p21]]) ?_ ?_
  ·refine G_block ?_
   refine G_seq ?_
   obtain ⟨x22, hx22, h⟩ := bind_elim h
   obtain ⟨lx22, ux22, hx22⟩ := getE_elim hx22
   obtain ⟨y23, hy23, h⟩ := bind_elim h
   obtain ⟨y28, hy28, h⟩ := bind_elim h
   refine G_sub (t := [(0, pV B1 0)]) ?_ subT (cv_refl _)
   refine G_monoX (by kernel_rfl) 15 [] [12, 13, 14] [21, 22, 23, 24, 25, 26, 27, 28, 29, 30, 31, 32, 33, 34, 35] [[], [], [1], [2], [3], [], [5], [6], [7], [4, 8], [9], [0, 10], [11], [12], []] [aV (pV B1 0),
 aV (pV B1 0),
 aV (pV B1 0),
 aV (pV B1 3),
 aV (.slice A11 n11 c11),
 aV (pV B1 0),
 aV (pV B1 0),
 aV (pV B1 5),
 aV (iV p13),
 aV (elemQ (.slice A11 n11 c11) p13.toNat 1 0),
 aV (iV x22),
 aX6 (fun (A26 : Option Addr) (n26 c26 : Nat) (A27 : Option Addr) (n27 c27 : Nat) => .agg #[iV y23.Kind, iV y23.Shape, iV y23.Flags, iV y23.Age, .slice A26 n26 c26, .slice A27 n27 c27]) (fun A26 n26 c26 A27 n27 c27 => [kS0 A26 n26 c26 y23.Slots, kS0 A27 n27 c27 y23.More]),
 aX3 (fun (A30 : Option Addr) (n30 c30 : Nat) => .slice A30 n30 c30) (fun A30 n30 c30 => [kO2 A30 n30 c30 y28]),
 aV (iV (y28.length : Int)),
 aV (iV 0)] [] (cv_refl _) (qB_nil) (by kernel_rfl) rfl rfl ?_ ?_ ?_
   ·exact qs_nil
   ·refine steps_cons rfl ?_ ?_
    ·exact X_ev (ev_move rfl) rfl (cvpV rfl (cv_refl _))
    refine steps_cons rfl ?_ ?_
    ·intro A30 n30 c30
     exact X_rd (rd_len 0 rfl els_own rfl Tryz.underlying35) rfl (cvpV rfl (cv_refl _))
    refine steps_cons rfl ?_ ?_
    ·intro A26 n26 c26 A27 n27 c27
     refine X_op (op_callR (cell_Leads_ok hy28) call55 rfl (mem_cons (lent_ro (i := 0) rfl rfl) (mem_cons (lent_ro (i := 1) rfl rfl) mem_nil)) cell_Leads_free) rfl ?_
     rintro _ _ ⟨_, ⟨A29, n29, c29, rfl, rfl⟩, rfl⟩
     exact cvp3 A29 n29 c29 (cv_refl _)
    refine steps_cons rfl ?_ ?_
    ·refine X_op (op_call (minor_meeter_cell_ok hy23) call104 rfl (cv_take [0, 1, 2] [5, 3, 4] [0, 1, 2] 6 rfl)) rfl ?_
     rintro _ _ ⟨_, ⟨A24, n24, c24, A25, n25, c25, rfl, rfl⟩, rfl⟩
     exact cvp6 A24 n24 c24 A25 n25 c25 (cv_sel [0, 1, 5, 6, 7, 3, 4, 2] 8 rfl rfl)
    refine steps_cons rfl ?_ ?_
    ·exact X_rd (rd_elem1 (u := iV x22) 3 rfl els_own rfl hx22 one3 (fun _ _ _ h => by rw [show _ = _ from h]; rfl)) rfl (cvpV rfl (cv_refl _))
    refine steps_cons rfl ?_ ?_
    ·exact X_rd (rd_idx 3 rfl els_own rfl rfl Tryz.underlying35 size3 lx22 ux22) rfl (cvpV rfl (cv_refl _))
    refine steps_cons rfl ?_ ?_
    ·exact X_rd (rd_box1 5 rfl rfl one3 rfl) rfl (cvpV rfl (cv_refl _))
    refine steps_cons rfl ?_ ?_
    ·exact X_ev (ev_fa rfl fa_109_4) rfl (cvpV rfl (cv_refl _))
    refine steps_cons rfl ?_ ?_
    ·exact X_ev (ev_nilCheck rfl) rfl (cvpV rfl (cv_refl _))
    refine steps_cons rfl ?_ ?_
    ·exact X_ev (ev_move rfl) rfl (cvpV rfl (cv_refl _))
    refine steps_cons rfl ?_ ?_
    ·exact X_rd (rd_box1 5 rfl rfl one35 rfl) rfl (cvpV rfl (cv_refl _))
    refine steps_cons rfl ?_ ?_
    ·exact X_ev (ev_fa rfl fa_109_2) rfl (cvpV rfl (cv_refl _))
    refine steps_cons rfl ?_ ?_
    ·exact X_ev (ev_nilCheck rfl) rfl (cvpV rfl (cv_refl _))
    refine steps_cons rfl ?_ ?_
    ·exact X_ev (ev_move rfl) rfl (cvpV rfl (cv_refl _))
    refine steps_cons rfl ?_ ?_
    ·exact X_ev (ev_move rfl) rfl (cvpV rfl (cv_refl _))
    exact steps_nil
   ·intro A30 n30 c30
    refine N_sub (t := [(33, .slice A30 n30 c30), (34, iV (y28.length : Int)), (35, iV 0), (0, pV B1 0)]) (L' := [kO2 A30 n30 c30 y28, kS1 A8 n8 c8 p8, kS1 A9 n9 c9 p9, kS5 A10 n10 c10 p10, kO2 A11 n11 c11 p11, mapC ekI evB M12 p12, boxC B1 109 [.slice A8 n8 c8, .slice A9 n9 c9, .slice A10 n10 c10, .slice A11 n11 c11, .map (some M12), iV p13]]) ?_ subT (cv_refl _)
    refine N_done (by kernel_rfl) ?_
    refine run ?_
    refine G_loopF (fun m s L => ∃ (p32 : Int) (p33 : (List DCell)) (p34 : (List DCell)) (p35 : (List Int)) (p36 : (List Int)) (p37 : (List (Int × Bool))) (p38 : Int) (A33 : Option Addr) (n33 c33 : Nat) (A34 : Option Addr) (n34 c34 : Nat) (A35 : Option Addr) (n35 c35 : Nat) (A36 : Option Addr) (n36 c36 : Nat) (M37 : Nat), minor_meeter_through_l31 N (minor_meeter_through_l7 N m7) y28 m p32 p33 p34 p35 p36 p37 p38 = some r ∧ s = [(0, pV B1 0), (33, .slice A30 n30 c30), (34, iV (y28.length : Int)), (35, iV p32)] ∧ L = [kO2 A30 n30 c30 y28, kS1 A33 n33 c33 p33, kS1 A34 n34 c34 p34, kS5 A35 n35 c35 p35, kO2 A36 n36 c36 p36, mapC ekI evB M37 p37, boxC B1 109 [.slice A33 n33 c33, .slice A34 n34 c34, .slice A35 n35 c35, .slice A36 n36 c36, .map (some M37), iV p38]]) N _ _ ⟨0, p8, p9, p10, p11, p12, p13, A8, n8, c8, A9, n9, c9, A10, n10, c10, A11, n11, c11, M12, h, rfl, rfl⟩ sA (cv_sel [0, 1, 2, 3, 4, 5, 6] 7 rfl rfl) ?_
    rintro (_ | m31) _ _ ⟨p32, p33, p34, p35, p36, p37, p38, A33, n33, c33, A34, n34, c34, A35, n35, c35, A36, n36, c36, M37, h, rfl, rfl⟩
    ·exact none_some h
    rw [minor_meeter_through_l31_s] at h
    refine run ?_
    refine G_seq ?_
    refine G_cond rfl (fun g39 => ?_) (fun g39 => ?_)
    ·replace h := cond_t g39 h
     refine run ?_
     refine G_seq ?_
     refine run ?_
     obtain ⟨x40, hx40, h⟩ := bind_elim h
     obtain ⟨lx40, ux40, hx40⟩ := getE_elim hx40
     refine gR (rd_idx 0 rfl els_own rfl rfl Tryz.underlying35 size3 lx40 ux40) ?_
     refine gR (rd_elem1 (u := iV x40) 0 rfl els_own rfl hx40 one3 (fun _ _ _ h => by rw [show _ = _ from h]; rfl)) ?_
     refine run ?_
     obtain ⟨y41, hy41, h⟩ := bind_elim h
     refine gD (op_call (minor_meeter_meet_ok hy41) call154 rfl (cv_take [1, 2, 3] [6, 4, 5] [0, 1, 2, 3] 7 rfl)) ?_
     rintro _ _ ⟨_, ⟨A42, n42, c42, A43, n43, c43, A44, n44, c44, A45, n45, c45, M46, rfl, rfl⟩, rfl⟩
     refine run ?_
     obtain ⟨q47, h⟩ := req_elim h
     refine gE (ev_add rfl rfl q47.1 q47.2) ?_
     refine run ?_
     exact ⟨m31, _, _, Nat.lt_succ_self _, ⟨p32 + 1, y41.m_.Young, y41.m_.Old, y41.kept_, y41.met_, y41.seen_, y41.next_, A42, n42, c42, A43, n43, c43, A44, n44, c44, A45, n45, c45, M46, h, rfl, rfl⟩, sA, cv_sel [6, 1, 2, 3, 4, 5, 0] 10 rfl rfl⟩
    ·replace h := cond_f g39 h
     refine run ?_
     exact ⟨_, _, ⟨p33, p34, p35, p36, p37, p38, A33, n33, c33, A34, n34, c34, A35, n35, c35, A36, n36, c36, M37, h, rfl, rfl⟩, sA, cv_sel [1, 2, 3, 4, 5, 6] 7 rfl rfl⟩
  ·rintro _ _ ⟨p16, p17, p18, p19, p20, p21, A16, n16, c16, A17, n17, c17, A18, n18, c18, A19, n19, c19, M20, h, rfl, rfl⟩
   refine run ?_
   obtain ⟨q48, h⟩ := req_elim h
   refine gE (ev_add rfl rfl q48.1 q48.2) ?_
   refine run ?_
   refine gO (op_store (us := [iV (p21 + 1)]) (cs' := [.slice A16 n16 c16, .slice A17 n17 c17, .slice A18 n18 c18, .slice A19 n19 c19, .map (some M20), iV (p21 + 1)]) 5 rfl rfl rfl rfl size3 rfl rfl rfl) ?_
   rintro _ _ rfl
   refine run ?_
   exact ⟨m7, _, _, Nat.lt_succ_self _, ⟨p16, p17, p18, p19, p20, p21 + 1, A16, n16, c16, A17, n17, c17, A18, n18, c18, A19, n19, c19, M20, h, rfl, rfl⟩, sA, cv_sel [0, 1, 2, 3, 4, 5] 6 rfl rfl⟩
 ·replace h := cond_f g14 h
  refine run ?_
  obtain rfl := Option.some.inj h
  exact endG0n rfl (cv_sel [5, 0, 1, 2, 3, 4] 6 rfl rfl) ⟨_, _, _, _, _, _, _, _, _, _, _, _, _, rfl, rfl⟩
def minor_meeter_live_j7 (N : Nat) (a0 : DMeeter) (p8 : (List Int)) : Option (List Int) :=
 req (fitsL (p8.length + a0.met_.length)) (some (p8 ++ a0.met_))
def minor_meeter_live_l9 (N : Nat) (a0 : DMeeter) : Nat → (List Int) → Int → Option (List Int)
 | 0, _, _ => none
 | m9 + 1, p10, p11 => bif decide (p11 < (a0.m_.Old.length : Int)) then (req (in64 (2 * p11)) (req (in64 ((2 * p11) + 2)) (req (fitsL (p10.length + ([(2 * p11) + 2] : List Int).length)) (req (in64 (p11 + 1)) ((minor_meeter_live_l9 N a0 m9) (p10 ++ ([(2 * p11) + 2] : List Int)) (p11 + 1)))))) else (minor_meeter_live_j7 N a0 p10)
theorem minor_meeter_live_l9_s {N m9 : Nat} {a0 : DMeeter} {p10 : (List Int)} {p11 : Int} : minor_meeter_live_l9 N a0 (m9 + 1) p10 p11 = bif decide (p11 < (a0.m_.Old.length : Int)) then (req (in64 (2 * p11)) (req (in64 ((2 * p11) + 2)) (req (fitsL (p10.length + ([(2 * p11) + 2] : List Int).length)) (req (in64 (p11 + 1)) ((minor_meeter_live_l9 N a0 m9) (p10 ++ ([(2 * p11) + 2] : List Int)) (p11 + 1)))))) else (minor_meeter_live_j7 N a0 p10) := rfl
def minor_meeter_live_O (N : Nat) (a0 : DMeeter) : Option (List Int) :=
 minor_meeter_live_l9 N a0 N [] 0
theorem minor_meeter_live_ok {N : Nat} {a0 : DMeeter} {r : (List Int)} (h : minor_meeter_live_O N a0 = some r) {B1 : Nat} {A2 : Option Addr} {n2 c2 : Nat} {A3 : Option Addr} {n3 c3 : Nat} {A4 : Option Addr} {n4 c4 : Nat} {A5 : Option Addr} {n5 c5 : Nat} {M6 : Nat} : Okc Tryz.prog 100 [pV B1 0] ([rboxC B1 109 [.slice A2 n2 c2, .slice A3 n3 c3, .slice A4 n4 c4, .slice A5 n5 c5, .map (some M6), iV a0.next_], kS1 A2 n2 c2 a0.m_.Young, kS1 A3 n3 c3 a0.m_.Old, kS5 A4 n4 c4 a0.kept_, kS5 A5 n5 c5 a0.met_, romC ekI evB M6 a0.seen_]) (fun (u : Value) (post : List Chunk) => ∃ A0 n0 c0, u = .slice A0 n0 c0 ∧ post = [kO2 A0 n0 c0 r]) := by
 refine ok_E Tryz.func100 rfl rfl ?_
 simp only [envOf]
 refine run ?_
 refine G_joinF (fun s L => ∃ (p8 : (List Int)) (A8 : Option Addr) (n8 c8 : Nat), minor_meeter_live_j7 N a0 p8 = some r ∧ s = [(0, pV B1 0), (2, .slice none 0 0), (3, .slice A8 n8 c8)] ∧ L = [kO2 A8 n8 c8 p8, kS1 A2 n2 c2 a0.m_.Young, kS1 A3 n3 c3 a0.m_.Old, kS5 A4 n4 c4 a0.kept_, kS5 A5 n5 c5 a0.met_, romC ekI evB M6 a0.seen_, rboxC B1 109 [.slice A2 n2 c2, .slice A3 n3 c3, .slice A4 n4 c4, .slice A5 n5 c5, .map (some M6), iV a0.next_]]) ?_ ?_
 ·refine run ?_
  refine gR (rd_rbox1 0 rfl rfl one22 rfl) ?_
  refine gR (rd_len 2 rfl els_sl rfl Tryz.underlying22) ?_
  refine run ?_
  refine G_loopF (fun m s L => ∃ (p10 : (List Int)) (p11 : Int) (A10 : Option Addr) (n10 c10 : Nat), minor_meeter_live_l9 N a0 m p10 p11 = some r ∧ s = [(0, pV B1 0), (2, .slice none 0 0), (3, .slice A10 n10 c10), (10, iV (a0.m_.Old.length : Int)), (11, iV p11)] ∧ L = [kO2 A10 n10 c10 p10, kS1 A2 n2 c2 a0.m_.Young, kS1 A3 n3 c3 a0.m_.Old, kS5 A4 n4 c4 a0.kept_, kS5 A5 n5 c5 a0.met_, romC ekI evB M6 a0.seen_, rboxC B1 109 [.slice A2 n2 c2, .slice A3 n3 c3, .slice A4 n4 c4, .slice A5 n5 c5, .map (some M6), iV a0.next_]]) N _ _ ⟨[], 0, none, 0, 0, h, rfl, rfl⟩ sA ((cv_nil (rInt .i64) 3 _).trans (cv_sel [0, 2, 3, 4, 5, 6, 1] 7 rfl rfl)) ?_
  rintro (_ | m9) _ _ ⟨p10, p11, A10, n10, c10, h, rfl, rfl⟩
  ·exact none_some h
  rw [minor_meeter_live_l9_s] at h
  refine run ?_
  refine G_seq ?_
  refine G_cond rfl (fun g13 => ?_) (fun g13 => ?_)
  ·replace h := cond_t g13 h
   refine run ?_
   refine G_seq ?_
   refine run ?_
   obtain ⟨q14, h⟩ := req_elim h
   refine gE (ev_mul rfl rfl q14.1 q14.2) ?_
   obtain ⟨q15, h⟩ := req_elim h
   refine gE (ev_add rfl rfl q15.1 q15.2) ?_
   refine gD (op_bslice (R := (rInt .i64)) (vss := [[iV ((2 * p11) + 2)]]) (xs := [(2 * p11) + 2]) rfl (bsl_35_1 _) rfl rfl (fun _ _ hr => .cons rfl All2.nil)) ?_
   rintro _ _ ⟨A16, n16, c16, rfl, rfl⟩
   obtain ⟨q17, h⟩ := req_elim h
   refine gD (op_append 1 0 rfl rfl els_own rfl rfl Tryz.underlying35 zb3 rfl rfl q17) ?_
   rintro _ _ ⟨A18, n18, c18, rfl, rfl⟩
   refine run ?_
   obtain ⟨q19, h⟩ := req_elim h
   refine gE (ev_add rfl rfl q19.1 q19.2) ?_
   refine run ?_
   exact ⟨m9, _, _, Nat.lt_succ_self _, ⟨p10 ++ ([(2 * p11) + 2] : List Int), p11 + 1, A18, n18, c18, h, rfl, rfl⟩, sA, cv_sel [1, 2, 3, 4, 5, 6, 7] 8 rfl rfl⟩
  ·replace h := cond_f g13 h
   refine run ?_
   exact ⟨_, _, ⟨p10, A10, n10, c10, h, rfl, rfl⟩, sA, cv_sel [0, 1, 2, 3, 4, 5, 6] 7 rfl rfl⟩
 ·rintro _ _ ⟨p8, A8, n8, c8, h, rfl, rfl⟩
  refine run ?_
  refine gR (rd_rbox1 6 rfl rfl one35 rfl) ?_
  obtain ⟨q20, h⟩ := req_elim h
  refine gD (op_append 0 4 rfl rfl els_sl rfl rfl Tryz.underlying35 zb3 rfl rfl q20) ?_
  rintro _ _ ⟨A21, n21, c21, rfl, rfl⟩
  refine run ?_
  obtain rfl := Option.some.inj h
  exact endG1 rfl rfl (cv_sel [0] 7 rfl rfl) ⟨_, _, _, rfl, rfl⟩
theorem minor_meeter_live_free {r : (List Int)} : ∀ v post, ((fun (u : Value) (post : List Chunk) => ∃ A0 n0 c0, u = .slice A0 n0 c0 ∧ post = [kO2 A0 n0 c0 r])) v post → ∀ c ∈ post, Free c := by
 rintro _ _ ⟨_, _, _, rfl, rfl⟩; exact mem_cons free_own (mem_nil)
def slices_Grow_n_j2 (N : Nat) (p3 : (List Int)) : Option (List Int) :=
 some p3
def slices_Grow_n_O (N : Nat) (a1 : Int) : Option (List Int) :=
 bif decide (a1 < 0) then none else (req (in64 (0 - 0)) (req (in64 (a1 - (0 - 0))) (bif decide (0 < a1 - (0 - 0)) then (req ((0 : Int) < (a1 - (0 - 0)) ∧ (a1 - (0 - 0)) ≤ 1099511627776) (slices_Grow_n_j2 N ([] : List Int))) else (slices_Grow_n_j2 N []))))
theorem slices_Grow_n_ok {N : Nat} {a1 : Int} {r : (List Int)} (h : slices_Grow_n_O N a1 = some r) : Okc Tryz.prog 200 [.slice none 0 0, iV a1] ([]) (fun (u : Value) (post : List Chunk) => ∃ A0 n0 c0, u = .slice A0 n0 c0 ∧ post = [kO2 A0 n0 c0 r]) := by
 refine ok_E Tryz.func200 rfl rfl ?_
 simp only [envOf]
 refine run ?_
 refine G_seq ?_
 refine run ?_
 refine G_cond rfl (fun g1 => ?_) (fun g1 => ?_)
 ·replace h := cond_t g1 h
  exact none_some h
 ·replace h := cond_f g1 h
  refine run ?_
  refine G_joinF (fun s L => ∃ (p3 : (List Int)) (A3 : Option Addr) (n3 c3 : Nat), slices_Grow_n_j2 N p3 = some r ∧ s = [(0, .slice A3 n3 c3), (4, .slice none 0 0)] ∧ L = [kO2 A3 n3 c3 p3]) ?_ ?_
  ·refine run ?_
   refine gE (ev_cap0 rfl Tryz.underlying35) ?_
   refine run ?_
   refine gE (ev_len rfl Tryz.underlying35) ?_
   obtain ⟨q4, h⟩ := req_elim h
   refine gE (ev_sub rfl rfl q4.1 q4.2) ?_
   obtain ⟨q5, h⟩ := req_elim h
   refine gE (ev_sub rfl rfl q5.1 q5.2) ?_
   refine run ?_
   refine G_cond rfl (fun g6 => ?_) (fun g6 => ?_)
   ·replace h := cond_t g6 h
    refine run ?_
    refine gE (ev_cap0 rfl Tryz.underlying35) ?_
    refine gE (ev_slice0 rfl Tryz.underlying35 size3 rfl) ?_
    refine run ?_
    obtain ⟨q7, h⟩ := req_elim h
    refine gD (op_appendZ rfl rfl Tryz.underlying35 Tryz.underlying3 zb3 rfl q7.1 q7.2) ?_
    rintro _ _ ⟨A8, n8, c8, rfl, rfl⟩
    refine run ?_
    refine gE (ev_len rfl Tryz.underlying35) ?_
    refine gD (op_cut0 (R := (rInt .i64)) 0 rfl rfl Tryz.underlying35 size3 rfl rfl) ?_
    rintro _ _ ⟨A9, n9, c9, rfl, rfl⟩
    refine run ?_
    exact ⟨_, _, ⟨([] : List Int), A9, n9, c9, h, rfl, rfl⟩, sA, cv_sel [0] 1 rfl rfl⟩
   ·replace h := cond_f g6 h
    refine run ?_
    exact ⟨_, _, ⟨[], none, 0, 0, h, rfl, rfl⟩, sA, (cv_nil (rInt .i64) 3 _).trans (cv_sel [0] 1 rfl rfl)⟩
  ·rintro _ _ ⟨p3, A3, n3, c3, h, rfl, rfl⟩
   refine run ?_
   obtain rfl := Option.some.inj h
   exact endG1 rfl rfl (cv_sel [0] 1 rfl rfl) ⟨_, _, _, rfl, rfl⟩
theorem slices_Grow_n_free {r : (List Int)} : ∀ v post, ((fun (u : Value) (post : List Chunk) => ∃ A0 n0 c0, u = .slice A0 n0 c0 ∧ post = [kO2 A0 n0 c0 r])) v post → ∀ c ∈ post, Free c := by
 rintro _ _ ⟨_, _, _, rfl, rfl⟩; exact mem_cons free_own (mem_nil)
def slices_Concat_j11 (N : Nat) (p12 : (List Int)) : Option (List Int) :=
 some p12
def slices_Concat_j4 (N : Nat) (a0_0 : (List Int)) (a0_1 : (List Int)) : Option (List Int) :=
 (slices_Grow_n_O N ((0 + (a0_0.length : Int)) + (a0_1.length : Int))).bind fun y9 => req (fitsL (y9.length + a0_0.length)) (req (fitsL ((y9 ++ a0_0).length + a0_1.length)) (slices_Concat_j11 N ((y9 ++ a0_0) ++ a0_1)))
def slices_Concat_O (N : Nat) (a0_0 : (List Int)) (a0_1 : (List Int)) : Option (List Int) :=
 req (in64 (0 + (a0_0.length : Int))) (bif decide (0 + (a0_0.length : Int) < 0) then none else (req (in64 ((0 + (a0_0.length : Int)) + (a0_1.length : Int))) (bif decide ((0 + (a0_0.length : Int)) + (a0_1.length : Int) < 0) then none else (slices_Concat_j4 N a0_0 a0_1))))
theorem slices_Concat_ok {N : Nat} {a0_0 : (List Int)} {a0_1 : (List Int)} {r : (List Int)} (h : slices_Concat_O N a0_0 a0_1 = some r) {B1 : Nat} {A2 : Option Addr} {n2 c2 : Nat} {A3 : Option Addr} {n3 c3 : Nat} : Okc Tryz.prog 189 [.slice (some ⟨B1, 0, none⟩) 2 2] ([rboxC B1 35 [.slice A2 n2 c2, .slice A3 n3 c3], kS5 A2 n2 c2 a0_0, kS5 A3 n3 c3 a0_1]) (fun (u : Value) (post : List Chunk) => ∃ A0 n0 c0, u = .slice A0 n0 c0 ∧ post = [kO2 A0 n0 c0 r]) := by
 refine ok_E Tryz.func189 rfl rfl ?_
 simp only [envOf]
 refine run ?_
 refine G_joinF (fun s L => slices_Concat_j4 N a0_0 a0_1 = some r ∧ s = [(0, .slice (some ⟨B1, 0, none⟩) 2 2), (2, .slice none 0 0), (3, iV ((0 + (a0_0.length : Int)) + (a0_1.length : Int)))] ∧ L = [kS5 A2 n2 c2 a0_0, kS5 A3 n3 c3 a0_1, rboxC B1 35 [.slice A2 n2 c2, .slice A3 n3 c3]]) ?_ ?_
 ·refine run ?_
  refine gE (ev_len rfl Tryz.underlying181) ?_
  refine run ?_
  refine G_rounds 3 ?_
  refine Wr_s ?_
  refine run ?_
  refine G_seq ?_
  refine G_cond_t rfl ?_
  refine run ?_
  refine G_seq ?_
  refine run ?_
  refine gE (ev_idx rfl rfl Tryz.underlying181 size35 (by decide) (by decide)) ?_
  refine gR (rd_rbox1 0 rfl rfl one35 rfl) ?_
  refine run ?_
  refine gR (rd_len 1 rfl els_sl rfl Tryz.underlying35) ?_
  obtain ⟨q5, h⟩ := req_elim h
  refine gE (ev_add rfl rfl q5.1 q5.2) ?_
  refine run ?_
  refine G_cond rfl (fun g6 => ?_) (fun g6 => ?_)
  ·replace h := cond_t g6 h
   exact none_some h
  ·replace h := cond_f g6 h
   refine run ?_
   refine gE (ev_add rfl rfl (by decide) (by decide)) ?_
   refine run ?_
   refine Wr_s ?_
   refine run ?_
   refine G_seq ?_
   refine G_cond_t rfl ?_
   refine run ?_
   refine G_seq ?_
   refine run ?_
   refine gE (ev_idx rfl rfl Tryz.underlying181 size35 (by decide) (by decide)) ?_
   refine gR (rd_rbox1 0 rfl rfl one35 rfl) ?_
   refine run ?_
   refine gR (rd_len 2 rfl els_sl rfl Tryz.underlying35) ?_
   obtain ⟨q7, h⟩ := req_elim h
   refine gE (ev_add rfl rfl q7.1 q7.2) ?_
   refine run ?_
   refine G_cond rfl (fun g8 => ?_) (fun g8 => ?_)
   ·replace h := cond_t g8 h
    exact none_some h
   ·replace h := cond_f g8 h
    refine run ?_
    refine gE (ev_add rfl rfl (by decide) (by decide)) ?_
    refine run ?_
    refine Wr_s ?_
    refine run ?_
    refine G_seq ?_
    refine G_cond_f rfl ?_
    refine run ?_
    exact ⟨_, _, ⟨h, rfl, rfl⟩, sA, cv_sel [1, 2, 0] 3 rfl rfl⟩
 ·rintro _ _ ⟨h, rfl, rfl⟩
  refine run ?_
  obtain ⟨y9, hy9, h⟩ := bind_elim h
  refine gD (op_callR (slices_Grow_n_ok hy9) call200 rfl (mem_nil) slices_Grow_n_free) ?_
  rintro _ _ ⟨_, ⟨A10, n10, c10, rfl, rfl⟩, rfl⟩
  refine run ?_
  refine G_joinF (fun s L => ∃ (p12 : (List Int)) (A12 : Option Addr) (n12 c12 : Nat), slices_Concat_j11 N p12 = some r ∧ s = [(2, .slice none 0 0), (6, .slice A12 n12 c12)] ∧ L = [kO2 A12 n12 c12 p12]) ?_ ?_
  ·refine run ?_
   refine gE (ev_len rfl Tryz.underlying181) ?_
   refine run ?_
   refine G_rounds 3 ?_
   refine Wr_s ?_
   refine run ?_
   refine G_seq ?_
   refine G_cond_t rfl ?_
   refine run ?_
   refine G_seq ?_
   refine run ?_
   refine gE (ev_idx rfl rfl Tryz.underlying181 size35 (by decide) (by decide)) ?_
   refine gR (rd_rbox1 3 rfl rfl one35 rfl) ?_
   refine run ?_
   obtain ⟨q13, h⟩ := req_elim h
   refine gD (op_append 0 1 rfl rfl els_sl rfl rfl Tryz.underlying35 zb3 rfl rfl q13) ?_
   rintro _ _ ⟨A14, n14, c14, rfl, rfl⟩
   refine run ?_
   refine gE (ev_add rfl rfl (by decide) (by decide)) ?_
   refine run ?_
   refine Wr_s ?_
   refine run ?_
   refine G_seq ?_
   refine G_cond_t rfl ?_
   refine run ?_
   refine G_seq ?_
   refine run ?_
   refine gE (ev_idx rfl rfl Tryz.underlying181 size35 (by decide) (by decide)) ?_
   refine gR (rd_rbox1 3 rfl rfl one35 rfl) ?_
   refine run ?_
   obtain ⟨q15, h⟩ := req_elim h
   refine gD (op_append 0 2 rfl rfl els_sl rfl rfl Tryz.underlying35 zb3 rfl rfl q15) ?_
   rintro _ _ ⟨A16, n16, c16, rfl, rfl⟩
   refine run ?_
   refine gE (ev_add rfl rfl (by decide) (by decide)) ?_
   refine run ?_
   refine Wr_s ?_
   refine run ?_
   refine G_seq ?_
   refine G_cond_f rfl ?_
   refine run ?_
   exact ⟨_, _, ⟨(y9 ++ a0_0) ++ a0_1, A16, n16, c16, h, rfl, rfl⟩, sA, cv_sel [0] 4 rfl rfl⟩
  ·rintro _ _ ⟨p12, A12, n12, c12, h, rfl, rfl⟩
   refine run ?_
   obtain rfl := Option.some.inj h
   exact endG1 rfl rfl (cv_sel [0] 1 rfl rfl) ⟨_, _, _, rfl, rfl⟩
theorem slices_Concat_free {r : (List Int)} : ∀ v post, ((fun (u : Value) (post : List Chunk) => ∃ A0 n0 c0, u = .slice A0 n0 c0 ∧ post = [kO2 A0 n0 c0 r])) v post → ∀ c ∈ post, Free c := by
 rintro _ _ ⟨_, _, _, rfl, rfl⟩; exact mem_cons free_own (mem_nil)
def minor_meeter_open_j9 (N : Nat) (a0 : DMeeter) (p10 : (List DCell)) (p11 : (List DCell)) (p12 : (List Int)) (p13 : (List Int)) (p14 : (List (Int × Bool))) (p15 : Int) : Option (Bool × DMeeter) :=
 some (decide ((a0.met_.length : Int) < (p13.length : Int)), (⟨(⟨p10, p11⟩ : DMemory), p12, p13, p14, p15⟩ : DMeeter))
def minor_meeter_open_j30 (N : Nat) (kb21 : Int → (List DCell) → (List DCell) → (List Int) → (List Int) → (List (Int × Bool)) → Int → Option (Bool × DMeeter)) (a0 : DMeeter) (y18 : ((List Int))) (p22 : Int) (y7 : ((List Int))) (p31 : (List DCell)) (p32 : (List DCell)) (p33 : (List Int)) (p34 : (List Int)) (p35 : (List (Int × Bool))) (p36 : Int) : Option (Bool × DMeeter) :=
 req (in64 (p22 + 1)) (kb21 (p22 + 1) p31 p32 p33 p34 p35 p36)
def minor_meeter_open_l43 (N : Nat) (kb21 : Int → (List DCell) → (List DCell) → (List Int) → (List Int) → (List (Int × Bool)) → Int → Option (Bool × DMeeter)) (a0 : DMeeter) (y18 : ((List Int))) (p22 : Int) (y41 : ((List Int))) (y7 : ((List Int))) : Nat → Int → (List DCell) → (List DCell) → (List Int) → (List Int) → (List (Int × Bool)) → Int → Option (Bool × DMeeter)
 | 0, _, _, _, _, _, _, _ => none
 | m43 + 1, p44, p45, p46, p47, p48, p49, p50 => bif decide (p44 < (y41.length : Int)) then ((getE y41 p44).bind fun x52 => (minor_meeter_meet_O N (⟨(⟨p45, p46⟩ : DMemory), p47, p48, p49, p50⟩ : DMeeter) x52).bind fun y53 => req (in64 (p44 + 1)) ((minor_meeter_open_l43 N kb21 a0 y18 p22 y41 y7 m43) (p44 + 1) y53.m_.Young y53.m_.Old y53.kept_ y53.met_ y53.seen_ y53.next_)) else (minor_meeter_open_j30 N kb21 a0 y18 p22 y7 p45 p46 p47 p48 p49 p50)
theorem minor_meeter_open_l43_s {N m43 : Nat} {kb21 : Int → (List DCell) → (List DCell) → (List Int) → (List Int) → (List (Int × Bool)) → Int → Option (Bool × DMeeter)} {a0 : DMeeter} {y18 : ((List Int))} {p22 : Int} {y41 : ((List Int))} {y7 : ((List Int))} {p44 : Int} {p45 : (List DCell)} {p46 : (List DCell)} {p47 : (List Int)} {p48 : (List Int)} {p49 : (List (Int × Bool))} {p50 : Int} : minor_meeter_open_l43 N kb21 a0 y18 p22 y41 y7 (m43 + 1) p44 p45 p46 p47 p48 p49 p50 = bif decide (p44 < (y41.length : Int)) then ((getE y41 p44).bind fun x52 => (minor_meeter_meet_O N (⟨(⟨p45, p46⟩ : DMemory), p47, p48, p49, p50⟩ : DMeeter) x52).bind fun y53 => req (in64 (p44 + 1)) ((minor_meeter_open_l43 N kb21 a0 y18 p22 y41 y7 m43) (p44 + 1) y53.m_.Young y53.m_.Old y53.kept_ y53.met_ y53.seen_ y53.next_)) else (minor_meeter_open_j30 N kb21 a0 y18 p22 y7 p45 p46 p47 p48 p49 p50) := rfl
def minor_meeter_open_l21 (N : Nat) (a0 : DMeeter) (y18 : ((List Int))) (y7 : ((List Int))) : Nat → Int → (List DCell) → (List DCell) → (List Int) → (List Int) → (List (Int × Bool)) → Int → Option (Bool × DMeeter)
 | 0, _, _, _, _, _, _, _ => none
 | m21 + 1, p22, p23, p24, p25, p26, p27, p28 => bif decide (p22 < (y18.length : Int)) then ((getE y18 p22).bind fun x37 => (minor_meeter_cell_O N (⟨(⟨p23, p24⟩ : DMemory), p25, p26, p27, p28⟩ : DMeeter) x37).bind fun y38 => (weak_Opens_O N y38 y7).bind fun y41 => minor_meeter_open_l43 N (minor_meeter_open_l21 N a0 y18 y7 m21) a0 y18 p22 y41 y7 N 0 p23 p24 p25 p26 p27 p28) else (minor_meeter_open_j9 N a0 p23 p24 p25 p26 p27 p28)
theorem minor_meeter_open_l21_s {N m21 : Nat} {a0 : DMeeter} {y18 : ((List Int))} {y7 : ((List Int))} {p22 : Int} {p23 : (List DCell)} {p24 : (List DCell)} {p25 : (List Int)} {p26 : (List Int)} {p27 : (List (Int × Bool))} {p28 : Int} : minor_meeter_open_l21 N a0 y18 y7 (m21 + 1) p22 p23 p24 p25 p26 p27 p28 = bif decide (p22 < (y18.length : Int)) then ((getE y18 p22).bind fun x37 => (minor_meeter_cell_O N (⟨(⟨p23, p24⟩ : DMemory), p25, p26, p27, p28⟩ : DMeeter) x37).bind fun y38 => (weak_Opens_O N y38 y7).bind fun y41 => minor_meeter_open_l43 N (minor_meeter_open_l21 N a0 y18 y7 m21) a0 y18 p22 y41 y7 N 0 p23 p24 p25 p26 p27 p28) else (minor_meeter_open_j9 N a0 p23 p24 p25 p26 p27 p28) := rfl
def minor_meeter_open_O (N : Nat) (a0 : DMeeter) : Option (Bool × DMeeter) :=
 (minor_meeter_live_O N a0).bind fun y7 => (slices_Concat_O N a0.kept_ a0.met_).bind fun y18 => minor_meeter_open_l21 N a0 y18 y7 N 0 a0.m_.Young a0.m_.Old a0.kept_ a0.met_ a0.seen_ a0.next_
theorem minor_meeter_open_ok {N : Nat} {a0 : DMeeter} {r : (Bool × DMeeter)} (h : minor_meeter_open_O N a0 = some r) {A2 : Option Addr} {n2 c2 : Nat} {A3 : Option Addr} {n3 c3 : Nat} {A4 : Option Addr} {n4 c4 : Nat} {B1 : Nat} {A5 : Option Addr} {n5 c5 : Nat} {M6 : Nat} : Okc Tryz.prog 156 [pV B1 0] ([kS1 A2 n2 c2 a0.m_.Young, kS1 A3 n3 c3 a0.m_.Old, kS5 A4 n4 c4 a0.kept_, boxC B1 109 [.slice A2 n2 c2, .slice A3 n3 c3, .slice A4 n4 c4, .slice A5 n5 c5, .map (some M6), iV a0.next_], kO2 A5 n5 c5 a0.met_, mapC ekI evB M6 a0.seen_]) (fun (u : Value) (post : List Chunk) => ∃ A0 n0 c0 A1 n1 c1 A2 n2 c2 A3 n3 c3 M4, u = .bool r.1 ∧ post = [boxC B1 109 [.slice A0 n0 c0, .slice A1 n1 c1, .slice A2 n2 c2, .slice A3 n3 c3, .map (some M4), iV r.2.next_], kS1 A0 n0 c0 r.2.m_.Young, kS1 A1 n1 c1 r.2.m_.Old, kS5 A2 n2 c2 r.2.kept_, kO2 A3 n3 c3 r.2.met_, mapC ekI evB M4 r.2.seen_]) := by
 refine ok_E Tryz.func156 rfl rfl ?_
 simp only [envOf]
 refine run ?_
 refine gR (rd_len 4 rfl els_own rfl Tryz.underlying35) ?_
 refine run ?_
 obtain ⟨y7, hy7, h⟩ := bind_elim h
 refine gD (op_callR (minor_meeter_live_ok hy7) call100 rfl (mem_cons (lent_box (i := 3) rfl) (mem_cons (lent_ro (i := 0) rfl rfl) (mem_cons (lent_ro (i := 1) rfl rfl) (mem_cons (lent_ro (i := 2) rfl rfl) (mem_cons (lent_own (i := 4) rfl) (mem_cons (lent_map (i := 5) rfl) mem_nil)))))) minor_meeter_live_free) ?_
 rintro _ _ ⟨_, ⟨A8, n8, c8, rfl, rfl⟩, rfl⟩
 refine run ?_
 refine G_joinF (fun s L => ∃ (p10 : (List DCell)) (p11 : (List DCell)) (p12 : (List Int)) (p13 : (List Int)) (p14 : (List (Int × Bool))) (p15 : Int) (A10 : Option Addr) (n10 c10 : Nat) (A11 : Option Addr) (n11 c11 : Nat) (A12 : Option Addr) (n12 c12 : Nat) (A13 : Option Addr) (n13 c13 : Nat) (M14 : Nat), minor_meeter_open_j9 N a0 p10 p11 p12 p13 p14 p15 = some r ∧ s = [(0, pV B1 0), (2, .bool false), (3, iV (a0.met_.length : Int))] ∧ L = [kS1 A10 n10 c10 p10, kS1 A11 n11 c11 p11, kS5 A12 n12 c12 p12, kO2 A13 n13 c13 p13, mapC ekI evB M14 p14, boxC B1 109 [.slice A10 n10 c10, .slice A11 n11 c11, .slice A12 n12 c12, .slice A13 n13 c13, .map (some M14), iV p15]]) ?_ ?_
 ·refine G_seq ?_
  obtain ⟨y18, hy18, h⟩ := bind_elim h
  refine G_sub (t := [(0, pV B1 0), (2, .bool false), (3, iV (a0.met_.length : Int)), (4, .slice A8 n8 c8)]) ?_ subT (cv_refl _)
  refine G_monoX (by kernel_rfl) 12 [] [9, 10, 11] [16, 17, 18, 19, 20, 21, 22, 23, 24, 25, 26, 27] [[], [0], [1], [2], [], [4], [5], [6], [3, 7], [8], [9], []] [aV (pV B1 0),
 aV (pV B1 0),
 aV (pV B1 2),
 aV (.slice A4 n4 c4),
 aV (pV B1 0),
 aV (pV B1 0),
 aV (pV B1 3),
 aV (.slice A5 n5 c5),
 aX1 (fun (B17 : Nat) => .slice (some ⟨B17, 0, none⟩) 2 2) (fun B17 => [boxC B17 35 [.slice A4 n4 c4, .slice A5 n5 c5]]),
 aX3 (fun (A20 : Option Addr) (n20 c20 : Nat) => .slice A20 n20 c20) (fun A20 n20 c20 => [kO2 A20 n20 c20 y18]),
 aV (iV (y18.length : Int)),
 aV (iV 0)] [] (cv_refl _) (qB_nil) (by kernel_rfl) rfl rfl ?_ ?_ ?_
  ·exact qs_nil
  ·refine steps_cons rfl ?_ ?_
   ·exact X_ev (ev_move rfl) rfl (cvpV rfl (cv_refl _))
   refine steps_cons rfl ?_ ?_
   ·intro A20 n20 c20
    exact X_rd (rd_len 0 rfl els_own rfl Tryz.underlying35) rfl (cvpV rfl (cv_refl _))
   refine steps_cons rfl ?_ ?_
   ·intro B17
    refine X_op (op_callR (slices_Concat_ok hy18) call189 rfl (mem_cons (lent_box (i := 0) rfl) (mem_cons (lent_ro (i := 4) rfl rfl) (mem_cons (lent_own (i := 6) rfl) mem_nil))) slices_Concat_free) rfl ?_
    rintro _ _ ⟨_, ⟨A19, n19, c19, rfl, rfl⟩, rfl⟩
    exact cvp3 A19 n19 c19 (cv_refl _)
   refine steps_cons rfl ?_ ?_
   ·refine X_op (op_bsliceB (cs := [.slice A4 n4 c4, .slice A5 n5 c5]) rfl (bsl_181_2 _ _ _ _ _ _)) rfl ?_
    rintro _ _ ⟨B16, rfl, rfl⟩
    exact cvp1 B16 (cv_refl _)
   refine steps_cons rfl ?_ ?_
   ·exact X_rd (rd_box1 4 rfl rfl one35 rfl) rfl (cvpV rfl (cv_refl _))
   refine steps_cons rfl ?_ ?_
   ·exact X_ev (ev_fa rfl fa_109_2) rfl (cvpV rfl (cv_refl _))
   refine steps_cons rfl ?_ ?_
   ·exact X_ev (ev_nilCheck rfl) rfl (cvpV rfl (cv_refl _))
   refine steps_cons rfl ?_ ?_
   ·exact X_ev (ev_move rfl) rfl (cvpV rfl (cv_refl _))
   refine steps_cons rfl ?_ ?_
   ·exact X_rd (rd_box1 4 rfl rfl one35 rfl) rfl (cvpV rfl (cv_refl _))
   refine steps_cons rfl ?_ ?_
   ·exact X_ev (ev_fa rfl fa_109_1) rfl (cvpV rfl (cv_refl _))
   refine steps_cons rfl ?_ ?_
   ·exact X_ev (ev_nilCheck rfl) rfl (cvpV rfl (cv_refl _))
   refine steps_cons rfl ?_ ?_
   ·exact X_ev (ev_move rfl) rfl (cvpV rfl (cv_refl _))
   exact steps_nil
  ·intro A20 n20 c20
   refine N_sub (t := [(25, .slice A20 n20 c20), (26, iV (y18.length : Int)), (27, iV 0), (0, pV B1 0), (2, .bool false), (3, iV (a0.met_.length : Int)), (4, .slice A8 n8 c8)]) (L' := [kO2 A20 n20 c20 y18, kO2 A8 n8 c8 y7, kS1 A2 n2 c2 a0.m_.Young, kS1 A3 n3 c3 a0.m_.Old, kS5 A4 n4 c4 a0.kept_, boxC B1 109 [.slice A2 n2 c2, .slice A3 n3 c3, .slice A4 n4 c4, .slice A5 n5 c5, .map (some M6), iV a0.next_], kO2 A5 n5 c5 a0.met_, mapC ekI evB M6 a0.seen_]) ?_ subT (cv_refl _)
   refine N_done (by kernel_rfl) ?_
   refine run ?_
   refine G_loopF (fun m s L => ∃ (p22 : Int) (p23 : (List DCell)) (p24 : (List DCell)) (p25 : (List Int)) (p26 : (List Int)) (p27 : (List (Int × Bool))) (p28 : Int) (A23 : Option Addr) (n23 c23 : Nat) (A24 : Option Addr) (n24 c24 : Nat) (A25 : Option Addr) (n25 c25 : Nat) (A26 : Option Addr) (n26 c26 : Nat) (M27 : Nat), minor_meeter_open_l21 N a0 y18 y7 m p22 p23 p24 p25 p26 p27 p28 = some r ∧ s = [(0, pV B1 0), (2, .bool false), (3, iV (a0.met_.length : Int)), (4, .slice A8 n8 c8), (25, .slice A20 n20 c20), (26, iV (y18.length : Int)), (27, iV p22)] ∧ L = [kO2 A8 n8 c8 y7, kO2 A20 n20 c20 y18, kS1 A23 n23 c23 p23, kS1 A24 n24 c24 p24, kS5 A25 n25 c25 p25, kO2 A26 n26 c26 p26, mapC ekI evB M27 p27, boxC B1 109 [.slice A23 n23 c23, .slice A24 n24 c24, .slice A25 n25 c25, .slice A26 n26 c26, .map (some M27), iV p28]]) N _ _ ⟨0, a0.m_.Young, a0.m_.Old, a0.kept_, a0.met_, a0.seen_, a0.next_, A2, n2, c2, A3, n3, c3, A4, n4, c4, A5, n5, c5, M6, h, rfl, rfl⟩ sA (cv_sel [1, 0, 2, 3, 4, 6, 7, 5] 8 rfl rfl) ?_
   rintro (_ | m21) _ _ ⟨p22, p23, p24, p25, p26, p27, p28, A23, n23, c23, A24, n24, c24, A25, n25, c25, A26, n26, c26, M27, h, rfl, rfl⟩
   ·exact none_some h
   rw [minor_meeter_open_l21_s] at h
   refine run ?_
   refine G_seq ?_
   refine G_cond rfl (fun g29 => ?_) (fun g29 => ?_)
   ·replace h := cond_t g29 h
    refine run ?_
    refine G_joinF (fun s L => ∃ (p31 : (List DCell)) (p32 : (List DCell)) (p33 : (List Int)) (p34 : (List Int)) (p35 : (List (Int × Bool))) (p36 : Int) (A31 : Option Addr) (n31 c31 : Nat) (A32 : Option Addr) (n32 c32 : Nat) (A33 : Option Addr) (n33 c33 : Nat) (A34 : Option Addr) (n34 c34 : Nat) (M35 : Nat), minor_meeter_open_j30 N (minor_meeter_open_l21 N a0 y18 y7 m21) a0 y18 p22 y7 p31 p32 p33 p34 p35 p36 = some r ∧ s = [(0, pV B1 0), (2, .bool false), (3, iV (a0.met_.length : Int)), (4, .slice A8 n8 c8), (25, .slice A20 n20 c20), (26, iV (y18.length : Int)), (27, iV p22)] ∧ L = [kO2 A8 n8 c8 y7, kO2 A20 n20 c20 y18, kS1 A31 n31 c31 p31, kS1 A32 n32 c32 p32, kS5 A33 n33 c33 p33, kO2 A34 n34 c34 p34, mapC ekI evB M35 p35, boxC B1 109 [.slice A31 n31 c31, .slice A32 n32 c32, .slice A33 n33 c33, .slice A34 n34 c34, .map (some M35), iV p36]]) ?_ ?_
    ·refine run ?_
     obtain ⟨x37, hx37, h⟩ := bind_elim h
     obtain ⟨lx37, ux37, hx37⟩ := getE_elim hx37
     refine gR (rd_idx 1 rfl els_own rfl rfl Tryz.underlying35 size3 lx37 ux37) ?_
     refine gR (rd_elem1 (u := iV x37) 1 rfl els_own rfl hx37 one3 (fun _ _ _ h => by rw [show _ = _ from h]; rfl)) ?_
     refine run ?_
     obtain ⟨y38, hy38, h⟩ := bind_elim h
     refine gD (op_call (minor_meeter_cell_ok hy38) call104 rfl (cv_take [2, 3, 4] [7, 5, 6] [0, 1, 2, 3, 4] 8 rfl)) ?_
     rintro _ _ ⟨_, ⟨A39, n39, c39, A40, n40, c40, rfl, rfl⟩, rfl⟩
     refine run ?_
     obtain ⟨y41, hy41, h⟩ := bind_elim h
     refine gD (op_callR (weak_Opens_ok hy41) call122 rfl (mem_cons (lent_ro (i := 0) rfl rfl) (mem_cons (lent_ro (i := 1) rfl rfl) (mem_cons (lent_own (i := 5) rfl) mem_nil))) weak_Opens_free) ?_
     rintro _ _ ⟨_, ⟨A42, n42, c42, rfl, rfl⟩, rfl⟩
     refine gR (rd_len 0 rfl els_own rfl Tryz.underlying35) ?_
     refine run ?_
     refine G_loopF (fun m s L => ∃ (p44 : Int) (p45 : (List DCell)) (p46 : (List DCell)) (p47 : (List Int)) (p48 : (List Int)) (p49 : (List (Int × Bool))) (p50 : Int) (A45 : Option Addr) (n45 c45 : Nat) (A46 : Option Addr) (n46 c46 : Nat) (A47 : Option Addr) (n47 c47 : Nat) (A48 : Option Addr) (n48 c48 : Nat) (M49 : Nat), minor_meeter_open_l43 N (minor_meeter_open_l21 N a0 y18 y7 m21) a0 y18 p22 y41 y7 m p44 p45 p46 p47 p48 p49 p50 = some r ∧ s = [(0, pV B1 0), (2, .bool false), (3, iV (a0.met_.length : Int)), (4, .slice A8 n8 c8), (25, .slice A20 n20 c20), (26, iV (y18.length : Int)), (27, iV p22), (35, .slice A42 n42 c42), (36, iV (y41.length : Int)), (37, iV p44)] ∧ L = [kO2 A8 n8 c8 y7, kO2 A20 n20 c20 y18, kO2 A42 n42 c42 y41, kS1 A45 n45 c45 p45, kS1 A46 n46 c46 p46, kS5 A47 n47 c47 p47, kO2 A48 n48 c48 p48, mapC ekI evB M49 p49, boxC B1 109 [.slice A45 n45 c45, .slice A46 n46 c46, .slice A47 n47 c47, .slice A48 n48 c48, .map (some M49), iV p50]]) N _ _ ⟨0, p23, p24, p25, p26, p27, p28, A23, n23, c23, A24, n24, c24, A25, n25, c25, A26, n26, c26, M27, h, rfl, rfl⟩ sA (cv_sel [6, 7, 0, 8, 9, 10, 4, 5, 3] 11 rfl rfl) ?_
     rintro (_ | m43) _ _ ⟨p44, p45, p46, p47, p48, p49, p50, A45, n45, c45, A46, n46, c46, A47, n47, c47, A48, n48, c48, M49, h, rfl, rfl⟩
     ·exact none_some h
     rw [minor_meeter_open_l43_s] at h
     refine run ?_
     refine G_seq ?_
     refine G_cond rfl (fun g51 => ?_) (fun g51 => ?_)
     ·replace h := cond_t g51 h
      refine run ?_
      refine G_seq ?_
      refine run ?_
      obtain ⟨x52, hx52, h⟩ := bind_elim h
      obtain ⟨lx52, ux52, hx52⟩ := getE_elim hx52
      refine gR (rd_idx 2 rfl els_own rfl rfl Tryz.underlying35 size3 lx52 ux52) ?_
      refine gR (rd_elem1 (u := iV x52) 2 rfl els_own rfl hx52 one3 (fun _ _ _ h => by rw [show _ = _ from h]; rfl)) ?_
      refine run ?_
      obtain ⟨y53, hy53, h⟩ := bind_elim h
      refine gD (op_call (minor_meeter_meet_ok hy53) call154 rfl (cv_take [3, 4, 5] [8, 6, 7] [0, 1, 2, 3, 4, 5] 9 rfl)) ?_
      rintro _ _ ⟨_, ⟨A54, n54, c54, A55, n55, c55, A56, n56, c56, A57, n57, c57, M58, rfl, rfl⟩, rfl⟩
      refine run ?_
      obtain ⟨q59, h⟩ := req_elim h
      refine gE (ev_add rfl rfl q59.1 q59.2) ?_
      refine run ?_
      exact ⟨m43, _, _, Nat.lt_succ_self _, ⟨p44 + 1, y53.m_.Young, y53.m_.Old, y53.kept_, y53.met_, y53.seen_, y53.next_, A54, n54, c54, A55, n55, c55, A56, n56, c56, A57, n57, c57, M58, h, rfl, rfl⟩, sA, cv_sel [6, 7, 8, 1, 2, 3, 4, 5, 0] 12 rfl rfl⟩
     ·replace h := cond_f g51 h
      refine run ?_
      exact ⟨_, _, ⟨p45, p46, p47, p48, p49, p50, A45, n45, c45, A46, n46, c46, A47, n47, c47, A48, n48, c48, M49, h, rfl, rfl⟩, sA, cv_sel [0, 1, 3, 4, 5, 6, 7, 8] 9 rfl rfl⟩
    ·rintro _ _ ⟨p31, p32, p33, p34, p35, p36, A31, n31, c31, A32, n32, c32, A33, n33, c33, A34, n34, c34, M35, h, rfl, rfl⟩
     refine G_region ?_
     obtain ⟨q60, h⟩ := req_elim h
     refine gE (ev_add rfl rfl q60.1 q60.2) ?_
     refine run ?_
     exact ⟨m21, _, _, Nat.lt_succ_self _, ⟨p22 + 1, p31, p32, p33, p34, p35, p36, A31, n31, c31, A32, n32, c32, A33, n33, c33, A34, n34, c34, M35, h, rfl, rfl⟩, sA, cv_sel [0, 1, 2, 3, 4, 5, 6, 7] 8 rfl rfl⟩
   ·replace h := cond_f g29 h
    refine run ?_
    exact ⟨_, _, ⟨p23, p24, p25, p26, p27, p28, A23, n23, c23, A24, n24, c24, A25, n25, c25, A26, n26, c26, M27, h, rfl, rfl⟩, sA, cv_sel [2, 3, 4, 5, 6, 7] 8 rfl rfl⟩
 ·rintro _ _ ⟨p10, p11, p12, p13, p14, p15, A10, n10, c10, A11, n11, c11, A12, n12, c12, A13, n13, c13, M14, h, rfl, rfl⟩
  refine run ?_
  refine gR (rd_len 3 rfl els_own rfl Tryz.underlying35) ?_
  refine run ?_
  obtain rfl := Option.some.inj h
  exact endG1 rfl rfl (cv_sel [5, 0, 1, 2, 3, 4] 6 rfl rfl) ⟨_, _, _, _, _, _, _, _, _, _, _, _, _, rfl, rfl⟩
def minor_all_j97 (N : Nat) (p98 : (List DCell)) (p99 : (List DCell)) (p100 : (List Int)) (p101 : (List Int)) (p102 : (List (Int × Bool))) (p103 : Int) : Option DMeeter :=
 some (⟨(⟨p98, p99⟩ : DMemory), p100, p101, p102, p103⟩ : DMeeter)
def minor_all_l104 (N : Nat) : Nat → (List DCell) → (List DCell) → (List Int) → (List Int) → (List (Int × Bool)) → Int → Option DMeeter
 | 0, _, _, _, _, _, _ => none
 | m104 + 1, p105, p106, p107, p108, p109, p110 => (minor_meeter_open_O N (⟨(⟨p105, p106⟩ : DMemory), p107, p108, p109, p110⟩ : DMeeter)).bind fun y111 => bif y111.1 then ((minor_meeter_through_O N y111.2).bind fun y118 => (minor_all_l104 N m104) y118.m_.Young y118.m_.Old y118.kept_ y118.met_ y118.seen_ y118.next_) else (minor_all_j97 N y111.2.m_.Young y111.2.m_.Old y111.2.kept_ y111.2.met_ y111.2.seen_ y111.2.next_)
theorem minor_all_l104_s {N m104 : Nat} {p105 : (List DCell)} {p106 : (List DCell)} {p107 : (List Int)} {p108 : (List Int)} {p109 : (List (Int × Bool))} {p110 : Int} : minor_all_l104 N (m104 + 1) p105 p106 p107 p108 p109 p110 = (minor_meeter_open_O N (⟨(⟨p105, p106⟩ : DMemory), p107, p108, p109, p110⟩ : DMeeter)).bind fun y111 => bif y111.1 then ((minor_meeter_through_O N y111.2).bind fun y118 => (minor_all_l104 N m104) y118.m_.Young y118.m_.Old y118.kept_ y118.met_ y118.seen_ y118.next_) else (minor_all_j97 N y111.2.m_.Young y111.2.m_.Old y111.2.kept_ y111.2.met_ y111.2.seen_ y111.2.next_) := rfl
def minor_all_j44 (N : Nat) (p45 : (List DCell)) (p46 : (List DCell)) (p47 : (List Int)) (p48 : (List Int)) (p49 : (List (Int × Bool))) (p50 : Int) : Option DMeeter :=
 (minor_meeter_through_O N (⟨(⟨p45, p46⟩ : DMemory), p47, p48, p49, p50⟩ : DMeeter)).bind fun y91 => minor_all_l104 N N y91.m_.Young y91.m_.Old y91.kept_ y91.met_ y91.seen_ y91.next_
def minor_all_j60 (N : Nat) (kb51 : Int → (List DCell) → (List DCell) → (List Int) → (List Int) → (List (Int × Bool)) → Int → Option DMeeter) (a2 : (List Int)) (p52 : Int) (p61 : (List DCell)) (p62 : (List DCell)) (p63 : (List Int)) (p64 : (List Int)) (p65 : (List (Int × Bool))) (p66 : Int) : Option DMeeter :=
 req (in64 (p52 + 1)) (kb51 (p52 + 1) p61 p62 p63 p64 p65 p66)
def minor_all_l73 (N : Nat) (kb51 : Int → (List DCell) → (List DCell) → (List Int) → (List Int) → (List (Int × Bool)) → Int → Option DMeeter) (a2 : (List Int)) (p52 : Int) (y71 : ((List Int))) : Nat → Int → (List DCell) → (List DCell) → (List Int) → (List Int) → (List (Int × Bool)) → Int → Option DMeeter
 | 0, _, _, _, _, _, _, _ => none
 | m73 + 1, p74, p75, p76, p77, p78, p79, p80 => bif decide (p74 < (y71.length : Int)) then ((getE y71 p74).bind fun x82 => (minor_meeter_meet_O N (⟨(⟨p75, p76⟩ : DMemory), p77, p78, p79, p80⟩ : DMeeter) x82).bind fun y83 => req (in64 (p74 + 1)) ((minor_all_l73 N kb51 a2 p52 y71 m73) (p74 + 1) y83.m_.Young y83.m_.Old y83.kept_ y83.met_ y83.seen_ y83.next_)) else (minor_all_j60 N kb51 a2 p52 p75 p76 p77 p78 p79 p80)
theorem minor_all_l73_s {N m73 : Nat} {kb51 : Int → (List DCell) → (List DCell) → (List Int) → (List Int) → (List (Int × Bool)) → Int → Option DMeeter} {a2 : (List Int)} {p52 : Int} {y71 : ((List Int))} {p74 : Int} {p75 : (List DCell)} {p76 : (List DCell)} {p77 : (List Int)} {p78 : (List Int)} {p79 : (List (Int × Bool))} {p80 : Int} : minor_all_l73 N kb51 a2 p52 y71 (m73 + 1) p74 p75 p76 p77 p78 p79 p80 = bif decide (p74 < (y71.length : Int)) then ((getE y71 p74).bind fun x82 => (minor_meeter_meet_O N (⟨(⟨p75, p76⟩ : DMemory), p77, p78, p79, p80⟩ : DMeeter) x82).bind fun y83 => req (in64 (p74 + 1)) ((minor_all_l73 N kb51 a2 p52 y71 m73) (p74 + 1) y83.m_.Young y83.m_.Old y83.kept_ y83.met_ y83.seen_ y83.next_)) else (minor_all_j60 N kb51 a2 p52 p75 p76 p77 p78 p79 p80) := rfl
def minor_all_l51 (N : Nat) (a2 : (List Int)) : Nat → Int → (List DCell) → (List DCell) → (List Int) → (List Int) → (List (Int × Bool)) → Int → Option DMeeter
 | 0, _, _, _, _, _, _, _ => none
 | m51 + 1, p52, p53, p54, p55, p56, p57, p58 => bif decide (p52 < (a2.length : Int)) then ((getE a2 p52).bind fun x67 => (minor_meeter_cell_O N (⟨(⟨p53, p54⟩ : DMemory), p55, p56, p57, p58⟩ : DMeeter) x67).bind fun y68 => (cell_Leads_O N y68).bind fun y71 => minor_all_l73 N (minor_all_l51 N a2 m51) a2 p52 y71 N 0 p53 p54 p55 p56 p57 p58) else (minor_all_j44 N p53 p54 p55 p56 p57 p58)
theorem minor_all_l51_s {N m51 : Nat} {a2 : (List Int)} {p52 : Int} {p53 : (List DCell)} {p54 : (List DCell)} {p55 : (List Int)} {p56 : (List Int)} {p57 : (List (Int × Bool))} {p58 : Int} : minor_all_l51 N a2 (m51 + 1) p52 p53 p54 p55 p56 p57 p58 = bif decide (p52 < (a2.length : Int)) then ((getE a2 p52).bind fun x67 => (minor_meeter_cell_O N (⟨(⟨p53, p54⟩ : DMemory), p55, p56, p57, p58⟩ : DMeeter) x67).bind fun y68 => (cell_Leads_O N y68).bind fun y71 => minor_all_l73 N (minor_all_l51 N a2 m51) a2 p52 y71 N 0 p53 p54 p55 p56 p57 p58) else (minor_all_j44 N p53 p54 p55 p56 p57 p58) := rfl
def minor_all_j8 (N : Nat) (a2 : (List Int)) (p9 : (List DCell)) (p10 : (List DCell)) (p11 : (List Int)) (p12 : (List Int)) (p13 : (List (Int × Bool))) (p14 : Int) : Option DMeeter :=
 minor_all_l51 N a2 N 0 p9 p10 p11 p12 p13 p14
def minor_all_j26 (N : Nat) (kb15 : Int → (List DCell) → (List DCell) → (List Int) → (List Int) → (List (Int × Bool)) → Int → Option DMeeter) (a1 : (List DValue)) (p16 : Int) (a2 : (List Int)) (p27 : (List DCell)) (p28 : (List DCell)) (p29 : (List Int)) (p30 : (List Int)) (p31 : (List (Int × Bool))) (p32 : Int) : Option DMeeter :=
 req (in64 (p16 + 1)) (kb15 (p16 + 1) p27 p28 p29 p30 p31 p32)
def minor_all_l15 (N : Nat) (a1 : (List DValue)) (a2 : (List Int)) : Nat → Int → (List DCell) → (List DCell) → (List Int) → (List Int) → (List (Int × Bool)) → Int → Option DMeeter
 | 0, _, _, _, _, _, _, _ => none
 | m15 + 1, p16, p17, p18, p19, p20, p21, p22 => bif decide (p16 < (a1.length : Int)) then ((getE a1 p16).bind fun x33 => (minor_address_O N x33).bind fun y35 => bif y35.2 then ((minor_meeter_meet_O N (⟨(⟨p17, p18⟩ : DMemory), p19, p20, p21, p22⟩ : DMeeter) y35.1).bind fun y37 => minor_all_j26 N (minor_all_l15 N a1 a2 m15) a1 p16 a2 y37.m_.Young y37.m_.Old y37.kept_ y37.met_ y37.seen_ y37.next_) else (minor_all_j26 N (minor_all_l15 N a1 a2 m15) a1 p16 a2 p17 p18 p19 p20 p21 p22)) else (minor_all_j8 N a2 p17 p18 p19 p20 p21 p22)
theorem minor_all_l15_s {N m15 : Nat} {a1 : (List DValue)} {a2 : (List Int)} {p16 : Int} {p17 : (List DCell)} {p18 : (List DCell)} {p19 : (List Int)} {p20 : (List Int)} {p21 : (List (Int × Bool))} {p22 : Int} : minor_all_l15 N a1 a2 (m15 + 1) p16 p17 p18 p19 p20 p21 p22 = bif decide (p16 < (a1.length : Int)) then ((getE a1 p16).bind fun x33 => (minor_address_O N x33).bind fun y35 => bif y35.2 then ((minor_meeter_meet_O N (⟨(⟨p17, p18⟩ : DMemory), p19, p20, p21, p22⟩ : DMeeter) y35.1).bind fun y37 => minor_all_j26 N (minor_all_l15 N a1 a2 m15) a1 p16 a2 y37.m_.Young y37.m_.Old y37.kept_ y37.met_ y37.seen_ y37.next_) else (minor_all_j26 N (minor_all_l15 N a1 a2 m15) a1 p16 a2 p17 p18 p19 p20 p21 p22)) else (minor_all_j8 N a2 p17 p18 p19 p20 p21 p22) := rfl
def minor_all_O (N : Nat) (a0 : DMemory) (a1 : (List DValue)) (a2 : (List Int)) : Option DMeeter :=
 minor_all_l15 N a1 a2 N 0 a0.Young a0.Old a2 [] ([] : (List (Int × Bool))) 0
theorem minor_all_ok {N : Nat} {a0 : DMemory} {a1 : (List DValue)} {a2 : (List Int)} {r : DMeeter} (h : minor_all_O N a0 a1 a2 = some r) {A1 : Option Addr} {n1 c1 : Nat} {A2 : Option Addr} {n2 c2 : Nat} {A3 : Option Addr} {n3 c3 : Nat} {A4 : Option Addr} {n4 c4 : Nat} : Okc Tryz.prog 96 [.agg #[.slice A1 n1 c1, .slice A2 n2 c2], .slice A3 n3 c3, .slice A4 n4 c4] ([kS1 A1 n1 c1 a0.Young, kS1 A2 n2 c2 a0.Old, kS0 A3 n3 c3 a1, kS5 A4 n4 c4 a2]) (fun (u : Value) (post : List Chunk) => ∃ B0 A1 n1 c1 A2 n2 c2 A3 n3 c3 A4 n4 c4 M5, u = pV B0 0 ∧ post = [boxC B0 109 [.slice A1 n1 c1, .slice A2 n2 c2, .slice A3 n3 c3, .slice A4 n4 c4, .map (some M5), iV r.next_], kS1 A1 n1 c1 r.m_.Young, kS1 A2 n2 c2 r.m_.Old, kS5 A3 n3 c3 r.kept_, kO2 A4 n4 c4 r.met_, mapC ekI evB M5 r.seen_]) := by
 refine ok_E Tryz.func96 rfl rfl ?_
 simp only [envOf]
 refine run ?_
 refine gD (op_box rfl rfl) ?_
 rintro _ _ ⟨B5, rfl, rfl⟩
 refine run ?_
 refine gR (rd_boxS (us := [.slice A1 n1 c1, .slice A2 n2 c2]) 0 rfl rfl agg24 rfl) ?_
 refine run ?_
 refine gD (op_makeMap (ek := ekI) (ev := evB)) ?_
 rintro _ _ ⟨M6, rfl, rfl⟩
 refine gE (ev_build rfl (bld_109_0_1_3 _ _ _ _ _ _ _ _ _ _)) ?_
 refine gD (op_box rfl rfl) ?_
 rintro _ _ ⟨B7, rfl, rfl⟩
 refine run ?_
 refine G_joinF (fun s L => ∃ (p9 : (List DCell)) (p10 : (List DCell)) (p11 : (List Int)) (p12 : (List Int)) (p13 : (List (Int × Bool))) (p14 : Int) (A9 : Option Addr) (n9 c9 : Nat) (A10 : Option Addr) (n10 c10 : Nat) (A11 : Option Addr) (n11 c11 : Nat) (A12 : Option Addr) (n12 c12 : Nat) (M13 : Nat), minor_all_j8 N a2 p9 p10 p11 p12 p13 p14 = some r ∧ s = [(2, .slice A4 n4 c4), (6, .pointer none), (7, pV B7 0)] ∧ L = [kS5 A4 n4 c4 a2, kS1 A9 n9 c9 p9, kS1 A10 n10 c10 p10, kS5 A11 n11 c11 p11, kO2 A12 n12 c12 p12, mapC ekI evB M13 p13, boxC B7 109 [.slice A9 n9 c9, .slice A10 n10 c10, .slice A11 n11 c11, .slice A12 n12 c12, .map (some M13), iV p14]]) ?_ ?_
 ·refine run ?_
  refine gR (rd_len 5 rfl els_sl rfl Tryz.underlying25) ?_
  refine run ?_
  refine G_loopF (fun m s L => ∃ (p16 : Int) (p17 : (List DCell)) (p18 : (List DCell)) (p19 : (List Int)) (p20 : (List Int)) (p21 : (List (Int × Bool))) (p22 : Int) (A17 : Option Addr) (n17 c17 : Nat) (A18 : Option Addr) (n18 c18 : Nat) (A19 : Option Addr) (n19 c19 : Nat) (A20 : Option Addr) (n20 c20 : Nat) (M21 : Nat), minor_all_l15 N a1 a2 m p16 p17 p18 p19 p20 p21 p22 = some r ∧ s = [(2, .slice A4 n4 c4), (6, .pointer none), (7, pV B7 0), (21, .slice A3 n3 c3), (22, iV (a1.length : Int)), (23, iV p16)] ∧ L = [kS5 A4 n4 c4 a2, kS0 A3 n3 c3 a1, kS1 A17 n17 c17 p17, kS1 A18 n18 c18 p18, kS5 A19 n19 c19 p19, kO2 A20 n20 c20 p20, mapC ekI evB M21 p21, boxC B7 109 [.slice A17 n17 c17, .slice A18 n18 c18, .slice A19 n19 c19, .slice A20 n20 c20, .map (some M21), iV p22]]) N _ _ ⟨0, a0.Young, a0.Old, a2, [], ([] : (List (Int × Bool))), 0, A1, n1, c1, A2, n2, c2, A4, n4, c4, none, 0, 0, M6, h, rfl, rfl⟩ sA ((cv_dup 6 rfl rfl).trans ((cv_nil (rInt .i64) 3 _).trans (cv_sel [8, 7, 5, 6, 1, 0, 3, 2] 9 rfl rfl))) ?_
  rintro (_ | m15) _ _ ⟨p16, p17, p18, p19, p20, p21, p22, A17, n17, c17, A18, n18, c18, A19, n19, c19, A20, n20, c20, M21, h, rfl, rfl⟩
  ·exact none_some h
  rw [minor_all_l15_s] at h
  refine run ?_
  refine G_seq ?_
  refine G_cond rfl (fun g25 => ?_) (fun g25 => ?_)
  ·replace h := cond_t g25 h
   refine run ?_
   refine G_joinF (fun s L => ∃ (p27 : (List DCell)) (p28 : (List DCell)) (p29 : (List Int)) (p30 : (List Int)) (p31 : (List (Int × Bool))) (p32 : Int) (A27 : Option Addr) (n27 c27 : Nat) (A28 : Option Addr) (n28 c28 : Nat) (A29 : Option Addr) (n29 c29 : Nat) (A30 : Option Addr) (n30 c30 : Nat) (M31 : Nat), minor_all_j26 N (minor_all_l15 N a1 a2 m15) a1 p16 a2 p27 p28 p29 p30 p31 p32 = some r ∧ s = [(2, .slice A4 n4 c4), (6, .pointer none), (7, pV B7 0), (21, .slice A3 n3 c3), (22, iV (a1.length : Int)), (23, iV p16)] ∧ L = [kS5 A4 n4 c4 a2, kS0 A3 n3 c3 a1, kS1 A27 n27 c27 p27, kS1 A28 n28 c28 p28, kS5 A29 n29 c29 p29, kO2 A30 n30 c30 p30, mapC ekI evB M31 p31, boxC B7 109 [.slice A27 n27 c27, .slice A28 n28 c28, .slice A29 n29 c29, .slice A30 n30 c30, .map (some M31), iV p32]]) ?_ ?_
   ·refine run ?_
    obtain ⟨x33, hx33, h⟩ := bind_elim h
    obtain ⟨lx33, ux33, hx33⟩ := getE_elim hx33
    refine gR (rd_idx 1 rfl els_sl rfl rfl Tryz.underlying25 size38 lx33 ux33) ?_
    refine gR (rd_elemS (us := [iV x33.Kind, iV x33.N, .string x33.S]) 1 rfl els_sl rfl hx33 agg38 (fun _ _ _ h => by rw [show _ = _ from h]; rfl)) ?_
    refine gD (op_alloc zero38 rfl) ?_
    rintro _ _ ⟨B34, rfl, rfl⟩
    refine gO (op_store (us := [iV x33.Kind, iV x33.N, .string x33.S]) (cs' := [iV x33.Kind, iV x33.N, .string x33.S]) 0 rfl rfl rfl rfl size38 rfl rfl rfl) ?_
    rintro _ _ rfl
    refine run ?_
    refine gR (rd_boxS (us := [iV x33.Kind, iV x33.N, .string x33.S]) 0 rfl rfl agg38 rfl) ?_
    obtain ⟨y35, hy35, h⟩ := bind_elim h
    refine gD (op_callR (minor_address_ok hy35) call150 rfl (mem_nil) minor_address_free) ?_
    rintro _ _ ⟨_, ⟨rfl, rfl⟩, rfl⟩
    refine run ?_
    refine G_cond rfl (fun g36 => ?_) (fun g36 => ?_)
    ·replace h := cond_t g36 h
     refine run ?_
     obtain ⟨y37, hy37, h⟩ := bind_elim h
     refine gD (op_call (minor_meeter_meet_ok hy37) call154 rfl (cv_take [3, 4, 5] [8, 6, 7] [0, 1, 2, 3, 4, 5] 9 rfl)) ?_
     rintro _ _ ⟨_, ⟨A38, n38, c38, A39, n39, c39, A40, n40, c40, A41, n41, c41, M42, rfl, rfl⟩, rfl⟩
     refine run ?_
     exact ⟨_, _, ⟨y37.m_.Young, y37.m_.Old, y37.kept_, y37.met_, y37.seen_, y37.next_, A38, n38, c38, A39, n39, c39, A40, n40, c40, A41, n41, c41, M42, h, rfl, rfl⟩, sA, cv_sel [7, 8, 1, 2, 3, 4, 5, 0] 12 rfl rfl⟩
    ·replace h := cond_f g36 h
     refine run ?_
     exact ⟨_, _, ⟨p17, p18, p19, p20, p21, p22, A17, n17, c17, A18, n18, c18, A19, n19, c19, A20, n20, c20, M21, h, rfl, rfl⟩, sA, cv_sel [1, 2, 3, 4, 5, 6, 7, 8] 9 rfl rfl⟩
   ·rintro _ _ ⟨p27, p28, p29, p30, p31, p32, A27, n27, c27, A28, n28, c28, A29, n29, c29, A30, n30, c30, M31, h, rfl, rfl⟩
    refine G_region ?_
    obtain ⟨q43, h⟩ := req_elim h
    refine gE (ev_add rfl rfl q43.1 q43.2) ?_
    refine run ?_
    exact ⟨m15, _, _, Nat.lt_succ_self _, ⟨p16 + 1, p27, p28, p29, p30, p31, p32, A27, n27, c27, A28, n28, c28, A29, n29, c29, A30, n30, c30, M31, h, rfl, rfl⟩, sA, cv_sel [0, 1, 2, 3, 4, 5, 6, 7] 8 rfl rfl⟩
  ·replace h := cond_f g25 h
   refine run ?_
   exact ⟨_, _, ⟨p17, p18, p19, p20, p21, p22, A17, n17, c17, A18, n18, c18, A19, n19, c19, A20, n20, c20, M21, h, rfl, rfl⟩, sA, cv_sel [0, 2, 3, 4, 5, 6, 7] 8 rfl rfl⟩
 ·rintro _ _ ⟨p9, p10, p11, p12, p13, p14, A9, n9, c9, A10, n10, c10, A11, n11, c11, A12, n12, c12, M13, h, rfl, rfl⟩
  refine G_joinF (fun s L => ∃ (p45 : (List DCell)) (p46 : (List DCell)) (p47 : (List Int)) (p48 : (List Int)) (p49 : (List (Int × Bool))) (p50 : Int) (A45 : Option Addr) (n45 c45 : Nat) (A46 : Option Addr) (n46 c46 : Nat) (A47 : Option Addr) (n47 c47 : Nat) (A48 : Option Addr) (n48 c48 : Nat) (M49 : Nat), minor_all_j44 N p45 p46 p47 p48 p49 p50 = some r ∧ s = [(6, .pointer none), (7, pV B7 0)] ∧ L = [kS1 A45 n45 c45 p45, kS1 A46 n46 c46 p46, kS5 A47 n47 c47 p47, kO2 A48 n48 c48 p48, mapC ekI evB M49 p49, boxC B7 109 [.slice A45 n45 c45, .slice A46 n46 c46, .slice A47 n47 c47, .slice A48 n48 c48, .map (some M49), iV p50]]) ?_ ?_
  ·refine run ?_
   refine gR (rd_len 0 rfl els_sl rfl Tryz.underlying35) ?_
   refine run ?_
   refine G_loopF (fun m s L => ∃ (p52 : Int) (p53 : (List DCell)) (p54 : (List DCell)) (p55 : (List Int)) (p56 : (List Int)) (p57 : (List (Int × Bool))) (p58 : Int) (A53 : Option Addr) (n53 c53 : Nat) (A54 : Option Addr) (n54 c54 : Nat) (A55 : Option Addr) (n55 c55 : Nat) (A56 : Option Addr) (n56 c56 : Nat) (M57 : Nat), minor_all_l51 N a2 m p52 p53 p54 p55 p56 p57 p58 = some r ∧ s = [(6, .pointer none), (7, pV B7 0), (37, .slice A4 n4 c4), (38, iV (a2.length : Int)), (39, iV p52)] ∧ L = [kS5 A4 n4 c4 a2, kS1 A53 n53 c53 p53, kS1 A54 n54 c54 p54, kS5 A55 n55 c55 p55, kO2 A56 n56 c56 p56, mapC ekI evB M57 p57, boxC B7 109 [.slice A53 n53 c53, .slice A54 n54 c54, .slice A55 n55 c55, .slice A56 n56 c56, .map (some M57), iV p58]]) N _ _ ⟨0, p9, p10, p11, p12, p13, p14, A9, n9, c9, A10, n10, c10, A11, n11, c11, A12, n12, c12, M13, h, rfl, rfl⟩ sA (cv_sel [0, 1, 2, 3, 4, 5, 6] 7 rfl rfl) ?_
   rintro (_ | m51) _ _ ⟨p52, p53, p54, p55, p56, p57, p58, A53, n53, c53, A54, n54, c54, A55, n55, c55, A56, n56, c56, M57, h, rfl, rfl⟩
   ·exact none_some h
   rw [minor_all_l51_s] at h
   refine run ?_
   refine G_seq ?_
   refine G_cond rfl (fun g59 => ?_) (fun g59 => ?_)
   ·replace h := cond_t g59 h
    refine run ?_
    refine G_joinF (fun s L => ∃ (p61 : (List DCell)) (p62 : (List DCell)) (p63 : (List Int)) (p64 : (List Int)) (p65 : (List (Int × Bool))) (p66 : Int) (A61 : Option Addr) (n61 c61 : Nat) (A62 : Option Addr) (n62 c62 : Nat) (A63 : Option Addr) (n63 c63 : Nat) (A64 : Option Addr) (n64 c64 : Nat) (M65 : Nat), minor_all_j60 N (minor_all_l51 N a2 m51) a2 p52 p61 p62 p63 p64 p65 p66 = some r ∧ s = [(6, .pointer none), (7, pV B7 0), (37, .slice A4 n4 c4), (38, iV (a2.length : Int)), (39, iV p52)] ∧ L = [kS5 A4 n4 c4 a2, kS1 A61 n61 c61 p61, kS1 A62 n62 c62 p62, kS5 A63 n63 c63 p63, kO2 A64 n64 c64 p64, mapC ekI evB M65 p65, boxC B7 109 [.slice A61 n61 c61, .slice A62 n62 c62, .slice A63 n63 c63, .slice A64 n64 c64, .map (some M65), iV p66]]) ?_ ?_
    ·refine run ?_
     obtain ⟨x67, hx67, h⟩ := bind_elim h
     obtain ⟨lx67, ux67, hx67⟩ := getE_elim hx67
     refine gR (rd_idx 0 rfl els_sl rfl rfl Tryz.underlying35 size3 lx67 ux67) ?_
     refine gR (rd_elem1 (u := iV x67) 0 rfl els_sl rfl hx67 one3 (fun _ _ _ h => by rw [show _ = _ from h]; rfl)) ?_
     refine run ?_
     obtain ⟨y68, hy68, h⟩ := bind_elim h
     refine gD (op_call (minor_meeter_cell_ok hy68) call104 rfl (cv_take [1, 2, 3] [6, 4, 5] [0, 1, 2, 3] 7 rfl)) ?_
     rintro _ _ ⟨_, ⟨A69, n69, c69, A70, n70, c70, rfl, rfl⟩, rfl⟩
     refine G_norm ([kS0 A69 n69 c69 y68.Slots, kS0 A70 n70 c70 y68.More, boxC B7 109 [.slice A53 n53 c53, .slice A54 n54 c54, .slice A55 n55 c55, .slice A56 n56 c56, .map (some M57), iV p58], kO2 A56 n56 c56 p56, mapC ekI evB M57 p57, kS5 A4 n4 c4 a2, kS1 A53 n53 c53 p53, kS1 A54 n54 c54 p54, kS5 A55 n55 c55 p55]) rfl ?_
     obtain ⟨y71, hy71, h⟩ := bind_elim h
     refine gD (op_callR (cell_Leads_ok hy71) call55 rfl (mem_cons (lent_ro (i := 0) rfl rfl) (mem_cons (lent_ro (i := 1) rfl rfl) mem_nil)) cell_Leads_free) ?_
     rintro _ _ ⟨_, ⟨A72, n72, c72, rfl, rfl⟩, rfl⟩
     refine gR (rd_len 0 rfl els_own rfl Tryz.underlying35) ?_
     refine run ?_
     refine G_loopF (fun m s L => ∃ (p74 : Int) (p75 : (List DCell)) (p76 : (List DCell)) (p77 : (List Int)) (p78 : (List Int)) (p79 : (List (Int × Bool))) (p80 : Int) (A75 : Option Addr) (n75 c75 : Nat) (A76 : Option Addr) (n76 c76 : Nat) (A77 : Option Addr) (n77 c77 : Nat) (A78 : Option Addr) (n78 c78 : Nat) (M79 : Nat), minor_all_l73 N (minor_all_l51 N a2 m51) a2 p52 y71 m p74 p75 p76 p77 p78 p79 p80 = some r ∧ s = [(6, .pointer none), (7, pV B7 0), (37, .slice A4 n4 c4), (38, iV (a2.length : Int)), (39, iV p52), (46, .slice A72 n72 c72), (47, iV (y71.length : Int)), (48, iV p74)] ∧ L = [kS5 A4 n4 c4 a2, kO2 A72 n72 c72 y71, kS1 A75 n75 c75 p75, kS1 A76 n76 c76 p76, kS5 A77 n77 c77 p77, kO2 A78 n78 c78 p78, mapC ekI evB M79 p79, boxC B7 109 [.slice A75 n75 c75, .slice A76 n76 c76, .slice A77 n77 c77, .slice A78 n78 c78, .map (some M79), iV p80]]) N _ _ ⟨0, p53, p54, p55, p56, p57, p58, A53, n53, c53, A54, n54, c54, A55, n55, c55, A56, n56, c56, M57, h, rfl, rfl⟩ sA (cv_sel [6, 0, 7, 8, 9, 4, 5, 3] 10 rfl rfl) ?_
     rintro (_ | m73) _ _ ⟨p74, p75, p76, p77, p78, p79, p80, A75, n75, c75, A76, n76, c76, A77, n77, c77, A78, n78, c78, M79, h, rfl, rfl⟩
     ·exact none_some h
     rw [minor_all_l73_s] at h
     refine run ?_
     refine G_seq ?_
     refine G_cond rfl (fun g81 => ?_) (fun g81 => ?_)
     ·replace h := cond_t g81 h
      refine run ?_
      refine G_seq ?_
      refine run ?_
      obtain ⟨x82, hx82, h⟩ := bind_elim h
      obtain ⟨lx82, ux82, hx82⟩ := getE_elim hx82
      refine gR (rd_idx 1 rfl els_own rfl rfl Tryz.underlying35 size3 lx82 ux82) ?_
      refine gR (rd_elem1 (u := iV x82) 1 rfl els_own rfl hx82 one3 (fun _ _ _ h => by rw [show _ = _ from h]; rfl)) ?_
      refine run ?_
      obtain ⟨y83, hy83, h⟩ := bind_elim h
      refine gD (op_call (minor_meeter_meet_ok hy83) call154 rfl (cv_take [2, 3, 4] [7, 5, 6] [0, 1, 2, 3, 4] 8 rfl)) ?_
      rintro _ _ ⟨_, ⟨A84, n84, c84, A85, n85, c85, A86, n86, c86, A87, n87, c87, M88, rfl, rfl⟩, rfl⟩
      refine run ?_
      obtain ⟨q89, h⟩ := req_elim h
      refine gE (ev_add rfl rfl q89.1 q89.2) ?_
      refine run ?_
      exact ⟨m73, _, _, Nat.lt_succ_self _, ⟨p74 + 1, y83.m_.Young, y83.m_.Old, y83.kept_, y83.met_, y83.seen_, y83.next_, A84, n84, c84, A85, n85, c85, A86, n86, c86, A87, n87, c87, M88, h, rfl, rfl⟩, sA, cv_sel [6, 7, 1, 2, 3, 4, 5, 0] 11 rfl rfl⟩
     ·replace h := cond_f g81 h
      refine run ?_
      exact ⟨_, _, ⟨p75, p76, p77, p78, p79, p80, A75, n75, c75, A76, n76, c76, A77, n77, c77, A78, n78, c78, M79, h, rfl, rfl⟩, sA, cv_sel [0, 2, 3, 4, 5, 6, 7] 8 rfl rfl⟩
    ·rintro _ _ ⟨p61, p62, p63, p64, p65, p66, A61, n61, c61, A62, n62, c62, A63, n63, c63, A64, n64, c64, M65, h, rfl, rfl⟩
     refine G_region ?_
     obtain ⟨q90, h⟩ := req_elim h
     refine gE (ev_add rfl rfl q90.1 q90.2) ?_
     refine run ?_
     exact ⟨m51, _, _, Nat.lt_succ_self _, ⟨p52 + 1, p61, p62, p63, p64, p65, p66, A61, n61, c61, A62, n62, c62, A63, n63, c63, A64, n64, c64, M65, h, rfl, rfl⟩, sA, cv_sel [0, 1, 2, 3, 4, 5, 6] 7 rfl rfl⟩
   ·replace h := cond_f g59 h
    refine run ?_
    exact ⟨_, _, ⟨p53, p54, p55, p56, p57, p58, A53, n53, c53, A54, n54, c54, A55, n55, c55, A56, n56, c56, M57, h, rfl, rfl⟩, sA, cv_sel [1, 2, 3, 4, 5, 6] 7 rfl rfl⟩
  ·rintro _ _ ⟨p45, p46, p47, p48, p49, p50, A45, n45, c45, A46, n46, c46, A47, n47, c47, A48, n48, c48, M49, h, rfl, rfl⟩
   refine run ?_
   obtain ⟨y91, hy91, h⟩ := bind_elim h
   refine gD (op_call (minor_meeter_through_ok hy91) call155 rfl (cv_take [0, 1, 2] [5, 3, 4] [0, 1, 2] 6 rfl)) ?_
   rintro _ _ ⟨_, ⟨A92, n92, c92, A93, n93, c93, A94, n94, c94, A95, n95, c95, M96, rfl, rfl⟩, rfl⟩
   refine run ?_
   refine G_joinF (fun s L => ∃ (p98 : (List DCell)) (p99 : (List DCell)) (p100 : (List Int)) (p101 : (List Int)) (p102 : (List (Int × Bool))) (p103 : Int) (A98 : Option Addr) (n98 c98 : Nat) (A99 : Option Addr) (n99 c99 : Nat) (A100 : Option Addr) (n100 c100 : Nat) (A101 : Option Addr) (n101 c101 : Nat) (M102 : Nat), minor_all_j97 N p98 p99 p100 p101 p102 p103 = some r ∧ s = [(6, .pointer none), (7, pV B7 0)] ∧ L = [kS1 A98 n98 c98 p98, kS1 A99 n99 c99 p99, kS5 A100 n100 c100 p100, kO2 A101 n101 c101 p101, mapC ekI evB M102 p102, boxC B7 109 [.slice A98 n98 c98, .slice A99 n99 c99, .slice A100 n100 c100, .slice A101 n101 c101, .map (some M102), iV p103]]) ?_ ?_
   ·refine G_block ?_
    refine G_loopF (fun m s L => ∃ (p105 : (List DCell)) (p106 : (List DCell)) (p107 : (List Int)) (p108 : (List Int)) (p109 : (List (Int × Bool))) (p110 : Int) (A105 : Option Addr) (n105 c105 : Nat) (A106 : Option Addr) (n106 c106 : Nat) (A107 : Option Addr) (n107 c107 : Nat) (A108 : Option Addr) (n108 c108 : Nat) (M109 : Nat), minor_all_l104 N m p105 p106 p107 p108 p109 p110 = some r ∧ s = [(6, .pointer none), (7, pV B7 0)] ∧ L = [kS1 A105 n105 c105 p105, kS1 A106 n106 c106 p106, kS5 A107 n107 c107 p107, kO2 A108 n108 c108 p108, mapC ekI evB M109 p109, boxC B7 109 [.slice A105 n105 c105, .slice A106 n106 c106, .slice A107 n107 c107, .slice A108 n108 c108, .map (some M109), iV p110]]) N _ _ ⟨y91.m_.Young, y91.m_.Old, y91.kept_, y91.met_, y91.seen_, y91.next_, A92, n92, c92, A93, n93, c93, A94, n94, c94, A95, n95, c95, M96, h, rfl, rfl⟩ sA (cv_sel [1, 2, 3, 4, 5, 0] 9 rfl rfl) ?_
    rintro (_ | m104) _ _ ⟨p105, p106, p107, p108, p109, p110, A105, n105, c105, A106, n106, c106, A107, n107, c107, A108, n108, c108, M109, h, rfl, rfl⟩
    ·exact none_some h
    rw [minor_all_l104_s] at h
    refine G_seq ?_
    refine run ?_
    obtain ⟨y111, hy111, h⟩ := bind_elim h
    refine gD (op_call (minor_meeter_open_ok hy111) call156 rfl (cv_take [0, 1, 2] [5, 3, 4] [0, 1, 2] 6 rfl)) ?_
    rintro _ _ ⟨_, ⟨A112, n112, c112, A113, n113, c113, A114, n114, c114, A115, n115, c115, M116, rfl, rfl⟩, rfl⟩
    refine G_norm ([boxC B7 109 [.slice A112 n112 c112, .slice A113 n113 c113, .slice A114 n114 c114, .slice A115 n115 c115, .map (some M116), iV y111.2.next_], kS1 A112 n112 c112 y111.2.m_.Young, kS1 A113 n113 c113 y111.2.m_.Old, kS5 A114 n114 c114 y111.2.kept_, kO2 A115 n115 c115 y111.2.met_, mapC ekI evB M116 y111.2.seen_, kS1 A105 n105 c105 p105, kS1 A106 n106 c106 p106, kS5 A107 n107 c107 p107]) rfl ?_
    refine run ?_
    refine G_cond rfl (fun g117 => ?_) (fun g117 => ?_)
    ·replace h := cond_t g117 h
     refine run ?_
     obtain ⟨y118, hy118, h⟩ := bind_elim h
     refine gD (op_call (minor_meeter_through_ok hy118) call155 rfl (cv_take [1, 2, 3] [0, 4, 5] [1, 2, 3, 6, 7, 8] 9 rfl)) ?_
     rintro _ _ ⟨_, ⟨A119, n119, c119, A120, n120, c120, A121, n121, c121, A122, n122, c122, M123, rfl, rfl⟩, rfl⟩
     refine run ?_
     exact ⟨m104, _, _, Nat.lt_succ_self _, ⟨y118.m_.Young, y118.m_.Old, y118.kept_, y118.met_, y118.seen_, y118.next_, A119, n119, c119, A120, n120, c120, A121, n121, c121, A122, n122, c122, M123, h, rfl, rfl⟩, sA, cv_sel [1, 2, 3, 4, 5, 0] 12 rfl rfl⟩
    ·replace h := cond_f g117 h
     refine run ?_
     exact ⟨_, _, ⟨y111.2.m_.Young, y111.2.m_.Old, y111.2.kept_, y111.2.met_, y111.2.seen_, y111.2.next_, A112, n112, c112, A113, n113, c113, A114, n114, c114, A115, n115, c115, M116, h, rfl, rfl⟩, sA, cv_sel [1, 2, 3, 4, 5, 0] 9 rfl rfl⟩
   ·rintro _ _ ⟨p98, p99, p100, p101, p102, p103, A98, n98, c98, A99, n99, c99, A100, n100, c100, A101, n101, c101, M102, h, rfl, rfl⟩
    refine run ?_
    obtain rfl := Option.some.inj h
    exact endG1 rfl rfl (cv_sel [5, 0, 1, 2, 3, 4] 6 rfl rfl) ⟨_, _, _, _, _, _, _, _, _, _, _, _, _, _, rfl, rfl⟩
def minor_meeter_places_j7 (N : Nat) (a0 : DMeeter) (p8 : (List Int)) : Option (List Int) :=
 some p8
def minor_meeter_places_j16 (N : Nat) (kb9 : (List Int) → Int → Int → Int → Option (List Int)) (a0 : DMeeter) (p13 : Int) (p17 : (List Int)) (p18 : Int) (p19 : Int) : Option (List Int) :=
 req (in64 (p13 + 1)) (kb9 p17 p18 p19 (p13 + 1))
def minor_meeter_places_l9 (N : Nat) (a0 : DMeeter) : Nat → (List Int) → Int → Int → Int → Option (List Int)
 | 0, _, _, _, _ => none
 | m9 + 1, p10, p11, p12, p13 => bif decide (p13 < (a0.met_.length : Int)) then ((getE a0.met_ p13).bind fun x20 => (minor_meeter_cell_O N a0 x20).bind fun y21 => bif decide (y21.Age = 0) then (req (in64 (2 * p11)) (req (in64 ((2 * p11) + 1)) (req (fitsL (p10.length + ([(2 * p11) + 1] : List Int).length)) (req (in64 (p11 + 1)) (minor_meeter_places_j16 N (minor_meeter_places_l9 N a0 m9) a0 p13 (p10 ++ ([(2 * p11) + 1] : List Int)) (p11 + 1) p12))))) else (req (in64 (2 * p12)) (req (in64 ((2 * p12) + 2)) (req (fitsL (p10.length + ([(2 * p12) + 2] : List Int).length)) (req (in64 (p12 + 1)) (minor_meeter_places_j16 N (minor_meeter_places_l9 N a0 m9) a0 p13 (p10 ++ ([(2 * p12) + 2] : List Int)) p11 (p12 + 1))))))) else (minor_meeter_places_j7 N a0 p10)
theorem minor_meeter_places_l9_s {N m9 : Nat} {a0 : DMeeter} {p10 : (List Int)} {p11 : Int} {p12 : Int} {p13 : Int} : minor_meeter_places_l9 N a0 (m9 + 1) p10 p11 p12 p13 = bif decide (p13 < (a0.met_.length : Int)) then ((getE a0.met_ p13).bind fun x20 => (minor_meeter_cell_O N a0 x20).bind fun y21 => bif decide (y21.Age = 0) then (req (in64 (2 * p11)) (req (in64 ((2 * p11) + 1)) (req (fitsL (p10.length + ([(2 * p11) + 1] : List Int).length)) (req (in64 (p11 + 1)) (minor_meeter_places_j16 N (minor_meeter_places_l9 N a0 m9) a0 p13 (p10 ++ ([(2 * p11) + 1] : List Int)) (p11 + 1) p12))))) else (req (in64 (2 * p12)) (req (in64 ((2 * p12) + 2)) (req (fitsL (p10.length + ([(2 * p12) + 2] : List Int).length)) (req (in64 (p12 + 1)) (minor_meeter_places_j16 N (minor_meeter_places_l9 N a0 m9) a0 p13 (p10 ++ ([(2 * p12) + 2] : List Int)) p11 (p12 + 1))))))) else (minor_meeter_places_j7 N a0 p10) := rfl
def minor_meeter_places_O (N : Nat) (a0 : DMeeter) : Option (List Int) :=
 minor_meeter_places_l9 N a0 N [] 0 (a0.m_.Old.length : Int) 0
theorem minor_meeter_places_ok {N : Nat} {a0 : DMeeter} {r : (List Int)} (h : minor_meeter_places_O N a0 = some r) {A2 : Option Addr} {n2 c2 : Nat} {A3 : Option Addr} {n3 c3 : Nat} {A4 : Option Addr} {n4 c4 : Nat} {B1 : Nat} {A5 : Option Addr} {n5 c5 : Nat} {M6 : Nat} : Okc Tryz.prog 99 [pV B1 0] ([kS1 A2 n2 c2 a0.m_.Young, kS1 A3 n3 c3 a0.m_.Old, kS5 A4 n4 c4 a0.kept_, boxC B1 109 [.slice A2 n2 c2, .slice A3 n3 c3, .slice A4 n4 c4, .slice A5 n5 c5, .map (some M6), iV a0.next_], kO2 A5 n5 c5 a0.met_, mapC ekI evB M6 a0.seen_]) (fun (u : Value) (post : List Chunk) => ∃ A0 n0 c0, u = .slice A0 n0 c0 ∧ post = [kO2 A0 n0 c0 r, boxC B1 109 [.slice A2 n2 c2, .slice A3 n3 c3, .slice A4 n4 c4, .slice A5 n5 c5, .map (some M6), iV a0.next_], kO2 A5 n5 c5 a0.met_, mapC ekI evB M6 a0.seen_]) := by
 refine ok_E Tryz.func99 rfl rfl ?_
 simp only [envOf]
 refine run ?_
 refine G_seq ?_
 refine G_drawn (by kernel_rfl) _ (cv_refl _) ?_
 refine T3_ev 0 rfl (by kernel_rfl) (ev_move rfl) rfl rfl ?_
 refine T3_ev 1 rfl (by kernel_rfl) (ev_nilCheck rfl) rfl rfl ?_
 refine T3_ev 2 rfl (by kernel_rfl) (ev_fa0 rfl fa_109_0) rfl rfl ?_
 refine T3_ev 3 rfl (by kernel_rfl) (ev_fa rfl fa_24_1) rfl rfl ?_
 refine T3_rd 4 rfl (by kernel_rfl) (rd_box1 3 rfl rfl one22 rfl) rfl rfl ?_
 refine T3_rd 5 rfl (by kernel_rfl) (rd_len 1 rfl els_sl rfl Tryz.underlying22) rfl rfl ?_
 refine T3_ev 6 rfl (by kernel_rfl) (ev_assign rfl) rfl rfl ?_
 refine T3_ev 7 rfl (by kernel_rfl) (ev_assign rfl) rfl rfl ?_
 refine T3_done (by kernel_rfl) ?_
 refine nx_n ?_
 refine G_joinF (fun s L => ∃ (p8 : (List Int)) (A8 : Option Addr) (n8 c8 : Nat), minor_meeter_places_j7 N a0 p8 = some r ∧ s = [(2, .slice none 0 0), (3, .slice A8 n8 c8)] ∧ L = [kO2 A8 n8 c8 p8, kS1 A2 n2 c2 a0.m_.Young, kS1 A3 n3 c3 a0.m_.Old, kS5 A4 n4 c4 a0.kept_, kO2 A5 n5 c5 a0.met_, mapC ekI evB M6 a0.seen_, boxC B1 109 [.slice A2 n2 c2, .slice A3 n3 c3, .slice A4 n4 c4, .slice A5 n5 c5, .map (some M6), iV a0.next_]]) ?_ ?_
 ·refine run ?_
  refine gR (rd_len 4 rfl els_own rfl Tryz.underlying35) ?_
  refine run ?_
  refine G_loopF (fun m s L => ∃ (p10 : (List Int)) (p11 : Int) (p12 : Int) (p13 : Int) (A10 : Option Addr) (n10 c10 : Nat), minor_meeter_places_l9 N a0 m p10 p11 p12 p13 = some r ∧ s = [(0, pV B1 0), (2, .slice none 0 0), (3, .slice A10 n10 c10), (4, iV p11), (5, iV p12), (17, .slice A5 n5 c5), (18, iV (a0.met_.length : Int)), (19, iV p13)] ∧ L = [kO2 A10 n10 c10 p10, kO2 A5 n5 c5 a0.met_, kS1 A2 n2 c2 a0.m_.Young, kS1 A3 n3 c3 a0.m_.Old, kS5 A4 n4 c4 a0.kept_, mapC ekI evB M6 a0.seen_, boxC B1 109 [.slice A2 n2 c2, .slice A3 n3 c3, .slice A4 n4 c4, .slice A5 n5 c5, .map (some M6), iV a0.next_]]) N _ _ ⟨[], 0, (a0.m_.Old.length : Int), 0, none, 0, 0, h, rfl, rfl⟩ sA ((cv_nil (rInt .i64) 3 _).trans (cv_sel [0, 5, 1, 2, 3, 6, 4] 7 rfl rfl)) ?_
  rintro (_ | m9) _ _ ⟨p10, p11, p12, p13, A10, n10, c10, h, rfl, rfl⟩
  ·exact none_some h
  rw [minor_meeter_places_l9_s] at h
  refine run ?_
  refine G_seq ?_
  refine G_cond rfl (fun g15 => ?_) (fun g15 => ?_)
  ·replace h := cond_t g15 h
   refine run ?_
   refine G_joinF (fun s L => ∃ (p17 : (List Int)) (p18 : Int) (p19 : Int) (A17 : Option Addr) (n17 c17 : Nat), minor_meeter_places_j16 N (minor_meeter_places_l9 N a0 m9) a0 p13 p17 p18 p19 = some r ∧ s = [(0, pV B1 0), (2, .slice none 0 0), (3, .slice A17 n17 c17), (4, iV p18), (5, iV p19), (17, .slice A5 n5 c5), (18, iV (a0.met_.length : Int)), (19, iV p13)] ∧ L = [kO2 A17 n17 c17 p17, kO2 A5 n5 c5 a0.met_, kS1 A2 n2 c2 a0.m_.Young, kS1 A3 n3 c3 a0.m_.Old, kS5 A4 n4 c4 a0.kept_, mapC ekI evB M6 a0.seen_, boxC B1 109 [.slice A2 n2 c2, .slice A3 n3 c3, .slice A4 n4 c4, .slice A5 n5 c5, .map (some M6), iV a0.next_]]) ?_ ?_
   ·refine run ?_
    obtain ⟨x20, hx20, h⟩ := bind_elim h
    obtain ⟨lx20, ux20, hx20⟩ := getE_elim hx20
    refine gR (rd_idx 1 rfl els_own rfl rfl Tryz.underlying35 size3 lx20 ux20) ?_
    refine gR (rd_elem1 (u := iV x20) 1 rfl els_own rfl hx20 one3 (fun _ _ _ h => by rw [show _ = _ from h]; rfl)) ?_
    refine run ?_
    obtain ⟨y21, hy21, h⟩ := bind_elim h
    refine gD (op_call (minor_meeter_cell_ok hy21) call104 rfl (cv_take [2, 3, 4] [6, 1, 5] [0, 2, 3, 4] 7 rfl)) ?_
    rintro _ _ ⟨_, ⟨A22, n22, c22, A23, n23, c23, rfl, rfl⟩, rfl⟩
    refine gE (ev_field rfl (fld_32_3 _ _ _ _ _ _ _ _ _ _)) ?_
    refine run ?_
    refine G_cond rfl (fun g24 => ?_) (fun g24 => ?_)
    ·replace h := cond_t g24 h
     refine run ?_
     obtain ⟨q25, h⟩ := req_elim h
     refine gE (ev_mul rfl rfl q25.1 q25.2) ?_
     obtain ⟨q26, h⟩ := req_elim h
     refine gE (ev_add rfl rfl q26.1 q26.2) ?_
     refine gD (op_bslice (R := (rInt .i64)) (vss := [[iV ((2 * p11) + 1)]]) (xs := [(2 * p11) + 1]) rfl (bsl_35_1 _) rfl rfl (fun _ _ hr => .cons rfl All2.nil)) ?_
     rintro _ _ ⟨A27, n27, c27, rfl, rfl⟩
     obtain ⟨q28, h⟩ := req_elim h
     refine gD (op_append 6 0 rfl rfl els_own rfl rfl Tryz.underlying35 zb3 rfl rfl q28) ?_
     rintro _ _ ⟨A29, n29, c29, rfl, rfl⟩
     refine run ?_
     obtain ⟨q30, h⟩ := req_elim h
     refine gE (ev_add rfl rfl q30.1 q30.2) ?_
     refine run ?_
     exact ⟨_, _, ⟨p10 ++ ([(2 * p11) + 1] : List Int), p11 + 1, p12, A29, n29, c29, h, rfl, rfl⟩, sA, cv_sel [6, 4, 7, 8, 9, 5, 3] 10 rfl rfl⟩
    ·replace h := cond_f g24 h
     refine run ?_
     obtain ⟨q31, h⟩ := req_elim h
     refine gE (ev_mul rfl rfl q31.1 q31.2) ?_
     obtain ⟨q32, h⟩ := req_elim h
     refine gE (ev_add rfl rfl q32.1 q32.2) ?_
     refine gD (op_bslice (R := (rInt .i64)) (vss := [[iV ((2 * p12) + 2)]]) (xs := [(2 * p12) + 2]) rfl (bsl_35_1 _) rfl rfl (fun _ _ hr => .cons rfl All2.nil)) ?_
     rintro _ _ ⟨A33, n33, c33, rfl, rfl⟩
     obtain ⟨q34, h⟩ := req_elim h
     refine gD (op_append 6 0 rfl rfl els_own rfl rfl Tryz.underlying35 zb3 rfl rfl q34) ?_
     rintro _ _ ⟨A35, n35, c35, rfl, rfl⟩
     refine G_norm ([kO2 A33 n33 c33 ([(2 * p12) + 2] : List Int), kS0 A22 n22 c22 y21.Slots, kS0 A23 n23 c23 y21.More, boxC B1 109 [.slice A2 n2 c2, .slice A3 n3 c3, .slice A4 n4 c4, .slice A5 n5 c5, .map (some M6), iV a0.next_], kO2 A5 n5 c5 a0.met_, mapC ekI evB M6 a0.seen_, kO2 A35 n35 c35 (p10 ++ ([(2 * p12) + 2] : List Int)), kS1 A2 n2 c2 a0.m_.Young, kS1 A3 n3 c3 a0.m_.Old, kS5 A4 n4 c4 a0.kept_]) rfl ?_
     refine run ?_
     obtain ⟨q36, h⟩ := req_elim h
     refine gE (ev_add rfl rfl q36.1 q36.2) ?_
     refine run ?_
     exact ⟨_, _, ⟨p10 ++ ([(2 * p12) + 2] : List Int), p11, p12 + 1, A35, n35, c35, h, rfl, rfl⟩, sA, cv_sel [6, 4, 7, 8, 9, 5, 3] 10 rfl rfl⟩
   ·rintro _ _ ⟨p17, p18, p19, A17, n17, c17, h, rfl, rfl⟩
    refine G_region ?_
    obtain ⟨q37, h⟩ := req_elim h
    refine gE (ev_add rfl rfl q37.1 q37.2) ?_
    refine run ?_
    exact ⟨m9, _, _, Nat.lt_succ_self _, ⟨p17, p18, p19, p13 + 1, A17, n17, c17, h, rfl, rfl⟩, sA, cv_sel [0, 1, 2, 3, 4, 5, 6] 7 rfl rfl⟩
  ·replace h := cond_f g15 h
   refine run ?_
   exact ⟨_, _, ⟨p10, A10, n10, c10, h, rfl, rfl⟩, sA, cv_sel [0, 2, 3, 4, 1, 5, 6] 7 rfl rfl⟩
 ·rintro _ _ ⟨p8, A8, n8, c8, h, rfl, rfl⟩
  refine run ?_
  obtain rfl := Option.some.inj h
  exact endG1 rfl rfl (cv_sel [0, 6, 4, 5] 7 rfl rfl) ⟨_, _, _, rfl, rfl⟩
def minor_clean_O (N : Nat) (a0 : DCell) (a1 : (List Int)) (a2 : (List DValue)) : Option (DCell × (List DValue)) :=
 bif decide (a0.Kind = 8) then ((weak_Clean_O N a0 a1).bind fun y8 => some (y8, a2)) else (bif decide (a0.Kind = 10) then ((finreg_Clean_O N a0 a1).bind fun y12 => req (fitsL (a2.length + y12.2.length)) (some (y12.1, a2 ++ y12.2))) else (some (a0, a2)))
theorem minor_clean_ok {N : Nat} {a0 : DCell} {a1 : (List Int)} {a2 : (List DValue)} {r : (DCell × (List DValue))} (h : minor_clean_O N a0 a1 a2 = some r) {A1 : Option Addr} {n1 c1 : Nat} {A2 : Option Addr} {n2 c2 : Nat} {A3 : Option Addr} {n3 c3 : Nat} {A4 : Option Addr} {n4 c4 : Nat} : Okc Tryz.prog 102 [.agg #[iV a0.Kind, iV a0.Shape, iV a0.Flags, iV a0.Age, .slice A1 n1 c1, .slice A2 n2 c2], .slice A3 n3 c3, .slice A4 n4 c4] ([kS0 A1 n1 c1 a0.Slots, kS0 A2 n2 c2 a0.More, kS5 A3 n3 c3 a1, kO3 A4 n4 c4 a2]) (fun (u : Value) (post : List Chunk) => ∃ A0 n0 c0 A1 n1 c1 A2 n2 c2, u = .tuple #[.agg #[iV r.1.Kind, iV r.1.Shape, iV r.1.Flags, iV r.1.Age, .slice A0 n0 c0, .slice A1 n1 c1], .slice A2 n2 c2] ∧ post = [kS0 A0 n0 c0 r.1.Slots, kS0 A1 n1 c1 r.1.More, kO3 A2 n2 c2 r.2]) := by
 refine ok_E Tryz.func102 rfl rfl ?_
 simp only [envOf]
 refine run ?_
 refine gD (op_box rfl rfl) ?_
 rintro _ _ ⟨B5, rfl, rfl⟩
 refine gD (op_alloc zero32 rfl) ?_
 rintro _ _ ⟨B6, rfl, rfl⟩
 refine run ?_
 refine G_seq ?_
 refine run ?_
 refine G_cond rfl (fun g7 => ?_) (fun g7 => ?_)
 ·replace h := cond_t g7 h
  refine run ?_
  refine gR (rd_boxS (us := [iV a0.Kind, iV a0.Shape, iV a0.Flags, iV a0.Age, .slice A1 n1 c1, .slice A2 n2 c2]) 1 rfl rfl agg32 rfl) ?_
  refine run ?_
  obtain ⟨y8, hy8, h⟩ := bind_elim h
  refine gD (op_callR (weak_Clean_ok hy8) call80 rfl (mem_cons (lent_ro (i := 2) rfl rfl) (mem_cons (lent_ro (i := 3) rfl rfl) (mem_cons (lent_ro (i := 4) rfl rfl) mem_nil))) weak_Clean_free) ?_
  rintro _ _ ⟨_, ⟨A9, n9, c9, A10, n10, c10, rfl, rfl⟩, rfl⟩
  refine run ?_
  refine gO (op_store (us := [iV y8.Kind, iV y8.Shape, iV y8.Flags, iV y8.Age, .slice A9 n9 c9, .slice A10 n10 c10]) (cs' := [iV y8.Kind, iV y8.Shape, iV y8.Flags, iV y8.Age, .slice A9 n9 c9, .slice A10 n10 c10]) 2 rfl rfl rfl rfl size32 rfl rfl rfl) ?_
  rintro _ _ rfl
  refine run ?_
  obtain rfl := Option.some.inj h
  exact endGl (rs := [.cell 6 32, .tmp 7]) (vs := [.agg #[iV y8.Kind, iV y8.Shape, iV y8.Flags, iV y8.Age, .slice A9 n9 c9, .slice A10 n10 c10], .slice A4 n4 c4]) rfl (.cons (rv_boxS 2 rfl rfl agg32) (.cons (rv_tmp rfl) .nil)) rfl ((cv_frz 0 rfl).trans ((cv_frz 1 rfl).trans (cv_sel [0, 1, 7] 8 rfl rfl))) ⟨_, _, _, _, _, _, _, _, _, rfl, rfl⟩
 ·replace h := cond_f g7 h
  refine run ?_
  refine G_cond rfl (fun g11 => ?_) (fun g11 => ?_)
  ·replace h := cond_t g11 h
   refine run ?_
   refine gR (rd_boxS (us := [iV a0.Kind, iV a0.Shape, iV a0.Flags, iV a0.Age, .slice A1 n1 c1, .slice A2 n2 c2]) 1 rfl rfl agg32 rfl) ?_
   refine run ?_
   obtain ⟨y12, hy12, h⟩ := bind_elim h
   refine gD (op_callR (finreg_Clean_ok hy12) call81 rfl (mem_cons (lent_ro (i := 2) rfl rfl) (mem_cons (lent_ro (i := 3) rfl rfl) (mem_cons (lent_ro (i := 4) rfl rfl) mem_nil))) finreg_Clean_free) ?_
   rintro _ _ ⟨_, ⟨A13, n13, c13, A14, n14, c14, A15, n15, c15, rfl, rfl⟩, rfl⟩
   refine run ?_
   refine gD (op_alloc zero32 rfl) ?_
   rintro _ _ ⟨B16, rfl, rfl⟩
   refine gO (op_store (us := [iV y12.1.Kind, iV y12.1.Shape, iV y12.1.Flags, iV y12.1.Age, .slice A13 n13 c13, .slice A14 n14 c14]) (cs' := [iV y12.1.Kind, iV y12.1.Shape, iV y12.1.Flags, iV y12.1.Age, .slice A13 n13 c13, .slice A14 n14 c14]) 0 rfl rfl rfl rfl size32 rfl rfl rfl) ?_
   rintro _ _ rfl
   refine run ?_
   refine G_seq ?_
   refine G_drawn (by kernel_rfl) ([boxC B16 32 [iV y12.1.Kind, iV y12.1.Shape, iV y12.1.Flags, iV y12.1.Age, .slice A13 n13 c13, .slice A14 n14 c14], kO3 A13 n13 c13 y12.1.Slots, kO3 A14 n14 c14 y12.1.More, kO3 A15 n15 c15 y12.2, boxC B5 32 [iV a0.Kind, iV a0.Shape, iV a0.Flags, iV a0.Age, .slice A1 n1 c1, .slice A2 n2 c2], kS0 A1 n1 c1 a0.Slots, kS0 A2 n2 c2 a0.More, kS5 A3 n3 c3 a1]) (cv_sel [0, 1, 2, 3, 5, 6, 7, 8] 10 rfl rfl) ?_
   refine T3_rd 0 rfl (by kernel_rfl) (rd_boxS (us := [iV y12.1.Kind, iV y12.1.Shape, iV y12.1.Flags, iV y12.1.Age, .slice A13 n13 c13, .slice A14 n14 c14]) 0 rfl rfl agg32 rfl) rfl rfl ?_
   refine T3_ev 1 rfl (by kernel_rfl) (ev_move rfl) rfl rfl ?_
   refine T3_ev 2 rfl (by kernel_rfl) (ev_move rfl) rfl rfl ?_
   obtain ⟨q17, h⟩ := req_elim h
   refine T3_opd 3 rfl (by kernel_rfl) (op_append 9 3 rfl rfl els_own rfl rfl Tryz.underlying25 zb38 rfl rfl q17) rfl rfl rfl ?_
   rintro _ _ ⟨A18, n18, c18, rfl, rfl⟩
   refine ⟨[boxC B16 32 [iV y12.1.Kind, iV y12.1.Shape, iV y12.1.Flags, iV y12.1.Age, .slice A13 n13 c13, .slice A14 n14 c14], kO3 A13 n13 c13 y12.1.Slots, kO3 A14 n14 c14 y12.1.More, kO3 A15 n15 c15 y12.2, boxC B5 32 [iV a0.Kind, iV a0.Shape, iV a0.Flags, iV a0.Age, .slice A1 n1 c1, .slice A2 n2 c2], kS0 A1 n1 c1 a0.Slots, kS0 A2 n2 c2 a0.More, kS5 A3 n3 c3 a1], cv_sel [0, 1, 2, 3, 5, 6, 7, 8] 10 rfl rfl, cv_refl _, ?_⟩
   refine T3_norm ([boxC B16 32 [iV y12.1.Kind, iV y12.1.Shape, iV y12.1.Flags, iV y12.1.Age, .slice A13 n13 c13, .slice A14 n14 c14], kO3 A13 n13 c13 y12.1.Slots, kO3 A14 n14 c14 y12.1.More, kO3 A15 n15 c15 y12.2, boxC B6 32 [iV 0, iV 0, iV 0, iV 0, .slice none 0 0, .slice none 0 0], boxC B5 32 [iV a0.Kind, iV a0.Shape, iV a0.Flags, iV a0.Age, .slice A1 n1 c1, .slice A2 n2 c2], kS0 A1 n1 c1 a0.Slots, kS0 A2 n2 c2 a0.More, kS5 A3 n3 c3 a1, kO3 A18 n18 c18 (a2 ++ y12.2)]) rfl ?_
   refine T3_opn 4 rfl (by kernel_rfl) (op_store (us := [iV y12.1.Kind, iV y12.1.Shape, iV y12.1.Flags, iV y12.1.Age, .slice A13 n13 c13, .slice A14 n14 c14]) (cs' := [iV y12.1.Kind, iV y12.1.Shape, iV y12.1.Flags, iV y12.1.Age, .slice A13 n13 c13, .slice A14 n14 c14]) 4 rfl rfl rfl rfl size32 rfl rfl rfl) rfl rfl ?_
   rintro _ _ rfl
   refine ⟨[boxC B16 32 [iV y12.1.Kind, iV y12.1.Shape, iV y12.1.Flags, iV y12.1.Age, .slice A13 n13 c13, .slice A14 n14 c14], kO3 A13 n13 c13 y12.1.Slots, kO3 A14 n14 c14 y12.1.More, kO3 A15 n15 c15 y12.2, boxC B5 32 [iV a0.Kind, iV a0.Shape, iV a0.Flags, iV a0.Age, .slice A1 n1 c1, .slice A2 n2 c2], kS0 A1 n1 c1 a0.Slots, kS0 A2 n2 c2 a0.More, kS5 A3 n3 c3 a1], cv_sel [0, 1, 2, 3, 5, 6, 7, 8] 10 rfl rfl, cv_refl _, ?_⟩
   refine T3_norm ([boxC B16 32 [iV y12.1.Kind, iV y12.1.Shape, iV y12.1.Flags, iV y12.1.Age, .slice A13 n13 c13, .slice A14 n14 c14], kO3 A13 n13 c13 y12.1.Slots, kO3 A14 n14 c14 y12.1.More, kO3 A15 n15 c15 y12.2, boxC B6 32 [iV y12.1.Kind, iV y12.1.Shape, iV y12.1.Flags, iV y12.1.Age, .slice A13 n13 c13, .slice A14 n14 c14], boxC B5 32 [iV a0.Kind, iV a0.Shape, iV a0.Flags, iV a0.Age, .slice A1 n1 c1, .slice A2 n2 c2], kS0 A1 n1 c1 a0.Slots, kS0 A2 n2 c2 a0.More, kS5 A3 n3 c3 a1, kO3 A18 n18 c18 (a2 ++ y12.2)]) rfl ?_
   refine T3_ev 5 rfl (by kernel_rfl) (ev_assign rfl) rfl rfl ?_
   refine T3_done (by kernel_rfl) ?_
   refine run ?_
   obtain rfl := Option.some.inj h
   exact endGl (rs := [.cell 6 32, .tmp 7]) (vs := [.agg #[iV y12.1.Kind, iV y12.1.Shape, iV y12.1.Flags, iV y12.1.Age, .slice A13 n13 c13, .slice A14 n14 c14], .slice A18 n18 c18]) rfl (.cons (rv_boxS 4 rfl rfl agg32) (.cons (rv_tmp rfl) .nil)) rfl ((cv_frz 1 rfl).trans ((cv_frz 2 rfl).trans (cv_sel [1, 2, 9] 10 rfl rfl))) ⟨_, _, _, _, _, _, _, _, _, rfl, rfl⟩
  ·replace h := cond_f g11 h
   refine run ?_
   refine gR (rd_boxS (us := [iV a0.Kind, iV a0.Shape, iV a0.Flags, iV a0.Age, .slice A1 n1 c1, .slice A2 n2 c2]) 1 rfl rfl agg32 rfl) ?_
   refine run ?_
   refine gO (op_store (us := [iV a0.Kind, iV a0.Shape, iV a0.Flags, iV a0.Age, .slice A1 n1 c1, .slice A2 n2 c2]) (cs' := [iV a0.Kind, iV a0.Shape, iV a0.Flags, iV a0.Age, .slice A1 n1 c1, .slice A2 n2 c2]) 0 rfl rfl rfl rfl size32 rfl rfl rfl) ?_
   rintro _ _ rfl
   refine G_norm ([boxC B6 32 [iV a0.Kind, iV a0.Shape, iV a0.Flags, iV a0.Age, .slice A1 n1 c1, .slice A2 n2 c2], boxC B5 32 [iV a0.Kind, iV a0.Shape, iV a0.Flags, iV a0.Age, .slice A1 n1 c1, .slice A2 n2 c2], kS0 A1 n1 c1 a0.Slots, kS0 A2 n2 c2 a0.More, kS5 A3 n3 c3 a1, kO3 A4 n4 c4 a2]) rfl ?_
   refine run ?_
   obtain rfl := Option.some.inj h
   exact endGl (rs := [.cell 6 32, .tmp 7]) (vs := [.agg #[iV a0.Kind, iV a0.Shape, iV a0.Flags, iV a0.Age, .slice A1 n1 c1, .slice A2 n2 c2], .slice A4 n4 c4]) rfl (.cons (rv_boxS 0 rfl rfl agg32) (.cons (rv_tmp rfl) .nil)) rfl (cv_sel [2, 3, 5] 6 rfl rfl) ⟨_, _, _, _, _, _, _, _, _, rfl, rfl⟩
def cell_Moved_j24 (N : Nat) (y21 : (DCell)) (p25 : (List DValue)) (p26 : (List DValue)) : Option DCell :=
 some (⟨y21.Kind, y21.Shape, y21.Flags, y21.Age, p25, p26⟩ : DCell)
def cell_Moved_j43 (N : Nat) (p9 : (List (Int × Int))) (p29 : (List DValue)) (y21 : (DCell)) (p44 : (List DValue)) : Option DCell :=
 cell_Moved_j24 N y21 p29 p44
def cell_Moved_j49 (N : Nat) (kb45 : (List DValue) → Int → Option DCell) (y21 : (DCell)) (p47 : Int) (p9 : (List (Int × Int))) (p29 : (List DValue)) (p50 : (List DValue)) : Option DCell :=
 req (in64 (p47 + 1)) (kb45 p50 (p47 + 1))
def cell_Moved_l45 (N : Nat) (y21 : (DCell)) (p9 : (List (Int × Int))) (p29 : (List DValue)) : Nat → (List DValue) → Int → Option DCell
 | 0, _, _ => none
 | m45 + 1, p46, p47 => bif decide (p47 < (y21.More.length : Int)) then ((getE p46 p47).bind fun x51 => (bif (lk p9 x51.N).isSome then ((cell_leads_O N x51).bind fun y54 => some y54) else (some false)).bind fun b53 => bif b53 then ((getE p46 p47).bind fun x56 => cell_Moved_j49 N (cell_Moved_l45 N y21 p9 p29 m45) y21 p47 p9 p29 (List.set p46 p47.toNat (⟨x56.Kind, (lk p9 x51.N).getD 0, x56.S⟩ : DValue))) else (cell_Moved_j49 N (cell_Moved_l45 N y21 p9 p29 m45) y21 p47 p9 p29 p46)) else (cell_Moved_j43 N p9 p29 y21 p46)
theorem cell_Moved_l45_s {N m45 : Nat} {y21 : (DCell)} {p9 : (List (Int × Int))} {p29 : (List DValue)} {p46 : (List DValue)} {p47 : Int} : cell_Moved_l45 N y21 p9 p29 (m45 + 1) p46 p47 = bif decide (p47 < (y21.More.length : Int)) then ((getE p46 p47).bind fun x51 => (bif (lk p9 x51.N).isSome then ((cell_leads_O N x51).bind fun y54 => some y54) else (some false)).bind fun b53 => bif b53 then ((getE p46 p47).bind fun x56 => cell_Moved_j49 N (cell_Moved_l45 N y21 p9 p29 m45) y21 p47 p9 p29 (List.set p46 p47.toNat (⟨x56.Kind, (lk p9 x51.N).getD 0, x56.S⟩ : DValue))) else (cell_Moved_j49 N (cell_Moved_l45 N y21 p9 p29 m45) y21 p47 p9 p29 p46)) else (cell_Moved_j43 N p9 p29 y21 p46) := rfl
def cell_Moved_j28 (N : Nat) (p9 : (List (Int × Int))) (y21 : (DCell)) (p29 : (List DValue)) : Option DCell :=
 cell_Moved_l45 N y21 p9 p29 N y21.More 0
def cell_Moved_j34 (N : Nat) (kb30 : (List DValue) → Int → Option DCell) (y21 : (DCell)) (p32 : Int) (p9 : (List (Int × Int))) (p35 : (List DValue)) : Option DCell :=
 req (in64 (p32 + 1)) (kb30 p35 (p32 + 1))
def cell_Moved_l30 (N : Nat) (y21 : (DCell)) (p9 : (List (Int × Int))) : Nat → (List DValue) → Int → Option DCell
 | 0, _, _ => none
 | m30 + 1, p31, p32 => bif decide (p32 < (y21.Slots.length : Int)) then ((getE p31 p32).bind fun x36 => (bif (lk p9 x36.N).isSome then ((cell_leads_O N x36).bind fun y39 => some y39) else (some false)).bind fun b38 => bif b38 then ((getE p31 p32).bind fun x41 => cell_Moved_j34 N (cell_Moved_l30 N y21 p9 m30) y21 p32 p9 (List.set p31 p32.toNat (⟨x41.Kind, (lk p9 x36.N).getD 0, x41.S⟩ : DValue))) else (cell_Moved_j34 N (cell_Moved_l30 N y21 p9 m30) y21 p32 p9 p31)) else (cell_Moved_j28 N p9 y21 p31)
theorem cell_Moved_l30_s {N m30 : Nat} {y21 : (DCell)} {p9 : (List (Int × Int))} {p31 : (List DValue)} {p32 : Int} : cell_Moved_l30 N y21 p9 (m30 + 1) p31 p32 = bif decide (p32 < (y21.Slots.length : Int)) then ((getE p31 p32).bind fun x36 => (bif (lk p9 x36.N).isSome then ((cell_leads_O N x36).bind fun y39 => some y39) else (some false)).bind fun b38 => bif b38 then ((getE p31 p32).bind fun x41 => cell_Moved_j34 N (cell_Moved_l30 N y21 p9 m30) y21 p32 p9 (List.set p31 p32.toNat (⟨x41.Kind, (lk p9 x36.N).getD 0, x41.S⟩ : DValue))) else (cell_Moved_j34 N (cell_Moved_l30 N y21 p9 m30) y21 p32 p9 p31)) else (cell_Moved_j28 N p9 y21 p31) := rfl
def cell_Moved_j8 (N : Nat) (a0 : DCell) (p9 : (List (Int × Int))) : Option DCell :=
 (cell_Copy_O N a0).bind fun y21 => cell_Moved_l30 N y21 p9 N y21.Slots 0
def cell_Moved_j14 (N : Nat) (kb10 : (List (Int × Int)) → Int → Option DCell) (a1 : (List Int)) (p12 : Int) (a2 : (List Int)) (a0 : DCell) (p15 : (List (Int × Int))) : Option DCell :=
 req (in64 (p12 + 1)) (kb10 p15 (p12 + 1))
def cell_Moved_l10 (N : Nat) (a1 : (List Int)) (a2 : (List Int)) (a0 : DCell) : Nat → (List (Int × Int)) → Int → Option DCell
 | 0, _, _ => none
 | m10 + 1, p11, p12 => bif decide (p12 < (a1.length : Int)) then ((getE a1 p12).bind fun x16 => bif (lk p11 x16).isSome then (cell_Moved_j14 N (cell_Moved_l10 N a1 a2 a0 m10) a1 p12 a2 a0 p11) else (bif decide (p12 < (a2.length : Int)) then ((getE a2 p12).bind fun x19 => cell_Moved_j14 N (cell_Moved_l10 N a1 a2 a0 m10) a1 p12 a2 a0 (upL (upL p11 x16 x16) x16 x19)) else (cell_Moved_j14 N (cell_Moved_l10 N a1 a2 a0 m10) a1 p12 a2 a0 (upL p11 x16 x16)))) else (cell_Moved_j8 N a0 p11)
theorem cell_Moved_l10_s {N m10 : Nat} {a1 : (List Int)} {a2 : (List Int)} {a0 : DCell} {p11 : (List (Int × Int))} {p12 : Int} : cell_Moved_l10 N a1 a2 a0 (m10 + 1) p11 p12 = bif decide (p12 < (a1.length : Int)) then ((getE a1 p12).bind fun x16 => bif (lk p11 x16).isSome then (cell_Moved_j14 N (cell_Moved_l10 N a1 a2 a0 m10) a1 p12 a2 a0 p11) else (bif decide (p12 < (a2.length : Int)) then ((getE a2 p12).bind fun x19 => cell_Moved_j14 N (cell_Moved_l10 N a1 a2 a0 m10) a1 p12 a2 a0 (upL (upL p11 x16 x16) x16 x19)) else (cell_Moved_j14 N (cell_Moved_l10 N a1 a2 a0 m10) a1 p12 a2 a0 (upL p11 x16 x16)))) else (cell_Moved_j8 N a0 p11) := rfl
def cell_Moved_O (N : Nat) (a0 : DCell) (a1 : (List Int)) (a2 : (List Int)) : Option DCell :=
 cell_Moved_l10 N a1 a2 a0 N ([] : (List (Int × Int))) 0
set_option maxHeartbeats 4000000 in
theorem cell_Moved_ok {N : Nat} {a0 : DCell} {a1 : (List Int)} {a2 : (List Int)} {r : DCell} (h : cell_Moved_O N a0 a1 a2 = some r) {A1 : Option Addr} {n1 c1 : Nat} {A2 : Option Addr} {n2 c2 : Nat} {A3 : Option Addr} {n3 c3 : Nat} {A4 : Option Addr} {n4 c4 : Nat} : Okc Tryz.prog 103 [.agg #[iV a0.Kind, iV a0.Shape, iV a0.Flags, iV a0.Age, .slice A1 n1 c1, .slice A2 n2 c2], .slice A3 n3 c3, .slice A4 n4 c4] ([kS0 A1 n1 c1 a0.Slots, kS0 A2 n2 c2 a0.More, kS5 A3 n3 c3 a1, kS5 A4 n4 c4 a2]) (fun (u : Value) (post : List Chunk) => ∃ A0 n0 c0 A1 n1 c1, u = .agg #[iV r.Kind, iV r.Shape, iV r.Flags, iV r.Age, .slice A0 n0 c0, .slice A1 n1 c1] ∧ post = [kO3 A0 n0 c0 r.Slots, kO3 A1 n1 c1 r.More]) := by
 refine ok_E Tryz.func103 rfl rfl ?_
 simp only [envOf]
 refine run ?_
 refine gD (op_box rfl rfl) ?_
 rintro _ _ ⟨B5, rfl, rfl⟩
 refine gD (op_alloc zero32 rfl) ?_
 rintro _ _ ⟨B6, rfl, rfl⟩
 refine run ?_
 refine gR (rd_len 4 rfl els_sl rfl Tryz.underlying35) ?_
 refine gD (op_makeMapN (ek := ekI) (ev := evI) rfl Tryz.underlying88) ?_
 rintro _ _ ⟨M7, rfl, rfl⟩
 refine run ?_
 refine G_joinF (fun s L => ∃ (p9 : (List (Int × Int))), cell_Moved_j8 N a0 p9 = some r ∧ s = [(3, pV B5 0), (6, pV B6 0), (7, .map (some M7))] ∧ L = [mapC ekI evI M7 p9, kS0 A1 n1 c1 a0.Slots, kS0 A2 n2 c2 a0.More, boxC B5 32 [iV a0.Kind, iV a0.Shape, iV a0.Flags, iV a0.Age, .slice A1 n1 c1, .slice A2 n2 c2], boxC B6 32 [iV 0, iV 0, iV 0, iV 0, .slice none 0 0, .slice none 0 0]]) ?_ ?_
 ·refine run ?_
  refine gR (rd_len 5 rfl els_sl rfl Tryz.underlying35) ?_
  refine run ?_
  refine G_loopF (fun m s L => ∃ (p11 : (List (Int × Int))) (p12 : Int), cell_Moved_l10 N a1 a2 a0 m p11 p12 = some r ∧ s = [(2, .slice A4 n4 c4), (3, pV B5 0), (6, pV B6 0), (7, .map (some M7)), (21, .slice A3 n3 c3), (22, iV (a1.length : Int)), (23, iV p12)] ∧ L = [kS5 A4 n4 c4 a2, mapC ekI evI M7 p11, kS5 A3 n3 c3 a1, kS0 A1 n1 c1 a0.Slots, kS0 A2 n2 c2 a0.More, boxC B5 32 [iV a0.Kind, iV a0.Shape, iV a0.Flags, iV a0.Age, .slice A1 n1 c1, .slice A2 n2 c2], boxC B6 32 [iV 0, iV 0, iV 0, iV 0, .slice none 0 0, .slice none 0 0]]) N _ _ ⟨([] : (List (Int × Int))), 0, h, rfl, rfl⟩ sA (cv_sel [6, 0, 5, 3, 4, 2, 1] 7 rfl rfl) ?_
  rintro (_ | m10) _ _ ⟨p11, p12, h, rfl, rfl⟩
  ·exact none_some h
  rw [cell_Moved_l10_s] at h
  refine run ?_
  refine G_seq ?_
  refine G_cond rfl (fun g13 => ?_) (fun g13 => ?_)
  ·replace h := cond_t g13 h
   refine run ?_
   refine G_joinF (fun s L => ∃ (p15 : (List (Int × Int))), cell_Moved_j14 N (cell_Moved_l10 N a1 a2 a0 m10) a1 p12 a2 a0 p15 = some r ∧ s = [(2, .slice A4 n4 c4), (3, pV B5 0), (6, pV B6 0), (7, .map (some M7)), (21, .slice A3 n3 c3), (22, iV (a1.length : Int)), (23, iV p12)] ∧ L = [kS5 A4 n4 c4 a2, mapC ekI evI M7 p15, kS5 A3 n3 c3 a1, kS0 A1 n1 c1 a0.Slots, kS0 A2 n2 c2 a0.More, boxC B5 32 [iV a0.Kind, iV a0.Shape, iV a0.Flags, iV a0.Age, .slice A1 n1 c1, .slice A2 n2 c2], boxC B6 32 [iV 0, iV 0, iV 0, iV 0, .slice none 0 0, .slice none 0 0]]) ?_ ?_
   ·refine run ?_
    obtain ⟨x16, hx16, h⟩ := bind_elim h
    obtain ⟨lx16, ux16, hx16⟩ := getE_elim hx16
    refine gR (rd_idx 2 rfl els_sl rfl rfl Tryz.underlying35 size3 lx16 ux16) ?_
    refine gR (rd_elem1 (u := iV x16) 2 rfl els_sl rfl hx16 one3 (fun _ _ _ h => by rw [show _ = _ from h]; rfl)) ?_
    refine run ?_
    refine G_seq ?_
    refine run ?_
    refine gR (rd_look2 (a := x16) (z := 0) 1 rfl map_rw rfl rfl Tryz.underlying88 (keyOk_int Tryz.underlying3) zero3) ?_
    refine run ?_
    refine G_cond rfl (fun g17 => ?_) (fun g17 => ?_)
    ·replace h := cond_t g17 h
     refine run ?_
     exact ⟨_, _, ⟨p11, h, rfl, rfl⟩, sA, cv_sel [0, 1, 2, 3, 4, 5, 6] 7 rfl rfl⟩
    ·replace h := cond_f g17 h
     refine run ?_
     refine gO (op_mapUpdate (a := x16) (b := x16) 1 rfl rfl rfl rfl Tryz.underlying88 (keyOk_int Tryz.underlying3)) ?_
     rintro _ _ rfl
     refine run ?_
     refine gR (rd_len 0 rfl els_sl rfl Tryz.underlying35) ?_
     refine run ?_
     refine G_cond rfl (fun g18 => ?_) (fun g18 => ?_)
     ·replace h := cond_t g18 h
      refine run ?_
      obtain ⟨x19, hx19, h⟩ := bind_elim h
      obtain ⟨lx19, ux19, hx19⟩ := getE_elim hx19
      refine gR (rd_idx 0 rfl els_sl rfl rfl Tryz.underlying35 size3 lx19 ux19) ?_
      refine gR (rd_elem1 (u := iV x19) 0 rfl els_sl rfl hx19 one3 (fun _ _ _ h => by rw [show _ = _ from h]; rfl)) ?_
      refine gO (op_mapUpdate (a := x16) (b := x19) 1 rfl rfl rfl rfl Tryz.underlying88 (keyOk_int Tryz.underlying3)) ?_
      rintro _ _ rfl
      refine run ?_
      exact ⟨_, _, ⟨upL (upL p11 x16 x16) x16 x19, h, rfl, rfl⟩, sA, cv_sel [0, 1, 2, 3, 4, 5, 6] 7 rfl rfl⟩
     ·replace h := cond_f g18 h
      refine run ?_
      exact ⟨_, _, ⟨upL p11 x16 x16, h, rfl, rfl⟩, sA, cv_sel [0, 1, 2, 3, 4, 5, 6] 7 rfl rfl⟩
   ·rintro _ _ ⟨p15, h, rfl, rfl⟩
    refine G_region ?_
    obtain ⟨q20, h⟩ := req_elim h
    refine gE (ev_add rfl rfl q20.1 q20.2) ?_
    refine run ?_
    exact ⟨m10, _, _, Nat.lt_succ_self _, ⟨p15, p12 + 1, h, rfl, rfl⟩, sA, cv_sel [0, 1, 2, 3, 4, 5, 6] 7 rfl rfl⟩
  ·replace h := cond_f g13 h
   refine run ?_
   exact ⟨_, _, ⟨p11, h, rfl, rfl⟩, sA, cv_sel [1, 3, 4, 5, 6] 7 rfl rfl⟩
 ·rintro _ _ ⟨p9, h, rfl, rfl⟩
  refine run ?_
  refine gR (rd_boxS (us := [iV a0.Kind, iV a0.Shape, iV a0.Flags, iV a0.Age, .slice A1 n1 c1, .slice A2 n2 c2]) 3 rfl rfl agg32 rfl) ?_
  obtain ⟨y21, hy21, h⟩ := bind_elim h
  refine gD (op_callR (cell_Copy_ok hy21) call50 rfl (mem_cons (lent_ro (i := 1) rfl rfl) (mem_cons (lent_ro (i := 2) rfl rfl) mem_nil)) cell_Copy_free) ?_
  rintro _ _ ⟨_, ⟨A22, n22, c22, A23, n23, c23, rfl, rfl⟩, rfl⟩
  refine gO (op_store (us := [iV y21.Kind, iV y21.Shape, iV y21.Flags, iV y21.Age, .slice A22 n22 c22, .slice A23 n23 c23]) (cs' := [iV y21.Kind, iV y21.Shape, iV y21.Flags, iV y21.Age, .slice A22 n22 c22, .slice A23 n23 c23]) 5 rfl rfl rfl rfl size32 rfl rfl rfl) ?_
  rintro _ _ rfl
  refine G_norm ([kO3 A22 n22 c22 y21.Slots, kO3 A23 n23 c23 y21.More, mapC ekI evI M7 p9, kS0 A1 n1 c1 a0.Slots, kS0 A2 n2 c2 a0.More, boxC B5 32 [iV y21.Kind, iV y21.Shape, iV y21.Flags, iV y21.Age, .slice A22 n22 c22, .slice A23 n23 c23], boxC B6 32 [iV 0, iV 0, iV 0, iV 0, .slice none 0 0, .slice none 0 0]]) rfl ?_
  refine run ?_
  refine G_joinF (fun s L => ∃ (p25 : (List DValue)) (p26 : (List DValue)) (A25 : Option Addr) (n25 c25 : Nat) (A26 : Option Addr) (n26 c26 : Nat), cell_Moved_j24 N y21 p25 p26 = some r ∧ s = [(3, pV B5 0), (6, pV B6 0)] ∧ L = [kO3 A25 n25 c25 p25, kO3 A26 n26 c26 p26, boxC B5 32 [iV y21.Kind, iV y21.Shape, iV y21.Flags, iV y21.Age, .slice A25 n25 c25, .slice A26 n26 c26], boxC B6 32 [iV 0, iV 0, iV 0, iV 0, .slice none 0 0, .slice none 0 0]]) ?_ ?_
  ·refine run ?_
   refine gD (op_bsliceB (cs := [.slice A22 n22 c22, .slice A23 n23 c23]) rfl (bsl_146_2 _ _ _ _ _ _)) ?_
   rintro _ _ ⟨B27, rfl, rfl⟩
   refine gE (ev_len rfl Tryz.underlying146) ?_
   refine run ?_
   refine G_rounds 3 ?_
   refine Wr_s ?_
   refine run ?_
   refine G_seq ?_
   refine G_cond_t rfl ?_
   refine run ?_
   refine G_joinF (fun s L => ∃ (p29 : (List DValue)) (A29 : Option Addr) (n29 c29 : Nat), cell_Moved_j28 N p9 y21 p29 = some r ∧ s = [(3, pV B5 0), (6, pV B6 0), (7, .map (some M7)), (55, .slice (some ⟨B27, 0, none⟩) 2 2), (56, iV 2), (57, iV 0)] ∧ L = [mapC ekI evI M7 p9, kO3 A29 n29 c29 p29, kO3 A23 n23 c23 y21.More, boxC B5 32 [iV y21.Kind, iV y21.Shape, iV y21.Flags, iV y21.Age, .slice A29 n29 c29, .slice A23 n23 c23], boxC B6 32 [iV 0, iV 0, iV 0, iV 0, .slice none 0 0, .slice none 0 0], boxC B27 25 [.slice A29 n29 c29, .slice A23 n23 c23]]) ?_ ?_
   ·refine run ?_
    refine gE (ev_idx rfl rfl Tryz.underlying146 size25 (by decide) (by decide)) ?_
    refine run ?_
    refine gR (rd_len 1 rfl els_own rfl Tryz.underlying25) ?_
    refine run ?_
    refine G_loopF (fun m s L => ∃ (p31 : (List DValue)) (p32 : Int) (A31 : Option Addr) (n31 c31 : Nat), cell_Moved_l30 N y21 p9 m p31 p32 = some r ∧ s = [(3, pV B5 0), (6, pV B6 0), (7, .map (some M7)), (13, .slice A31 n31 c31), (55, .slice (some ⟨B27, 0, none⟩) 2 2), (56, iV 2), (57, iV 0), (61, .slice A31 n31 c31), (62, iV (y21.Slots.length : Int)), (63, iV p32)] ∧ L = [mapC ekI evI M7 p9, kO3 A31 n31 c31 p31, kO3 A23 n23 c23 y21.More, boxC B5 32 [iV y21.Kind, iV y21.Shape, iV y21.Flags, iV y21.Age, .slice A31 n31 c31, .slice A23 n23 c23], boxC B6 32 [iV 0, iV 0, iV 0, iV 0, .slice none 0 0, .slice none 0 0], boxC B27 25 [.slice A31 n31 c31, .slice A23 n23 c23]]) N _ _ ⟨y21.Slots, 0, A22, n22, c22, h, rfl, rfl⟩ sA (cv_sel [3, 1, 2, 6, 7, 0] 8 rfl rfl) ?_
    rintro (_ | m30) _ _ ⟨p31, p32, A31, n31, c31, h, rfl, rfl⟩
    ·exact none_some h
    rw [cell_Moved_l30_s] at h
    refine run ?_
    refine G_seq ?_
    refine G_cond rfl (fun g33 => ?_) (fun g33 => ?_)
    ·replace h := cond_t g33 h
     refine run ?_
     refine G_joinF (fun s L => ∃ (p35 : (List DValue)) (A35 : Option Addr) (n35 c35 : Nat), cell_Moved_j34 N (cell_Moved_l30 N y21 p9 m30) y21 p32 p9 p35 = some r ∧ s = [(3, pV B5 0), (6, pV B6 0), (7, .map (some M7)), (13, .slice A35 n35 c35), (55, .slice (some ⟨B27, 0, none⟩) 2 2), (56, iV 2), (57, iV 0), (61, .slice A35 n35 c35), (62, iV (y21.Slots.length : Int)), (63, iV p32)] ∧ L = [mapC ekI evI M7 p9, kO3 A35 n35 c35 p35, kO3 A23 n23 c23 y21.More, boxC B5 32 [iV y21.Kind, iV y21.Shape, iV y21.Flags, iV y21.Age, .slice A35 n35 c35, .slice A23 n23 c23], boxC B6 32 [iV 0, iV 0, iV 0, iV 0, .slice none 0 0, .slice none 0 0], boxC B27 25 [.slice A35 n35 c35, .slice A23 n23 c23]]) ?_ ?_
     ·refine run ?_
      obtain ⟨x36, hx36, h⟩ := bind_elim h
      obtain ⟨lx36, ux36, hx36⟩ := getE_elim hx36
      refine gR (rd_idx 1 rfl els_own rfl rfl Tryz.underlying25 size38 lx36 ux36) ?_
      refine gR (rd_elemS (us := [iV x36.Kind, iV x36.N, .string x36.S]) 1 rfl els_own rfl hx36 agg38 (fun _ _ _ h => by rw [show _ = _ from h]; rfl)) ?_
      refine gD (op_alloc zero38 rfl) ?_
      rintro _ _ ⟨B37, rfl, rfl⟩
      refine run ?_
      refine gO (op_store (us := [iV x36.Kind, iV x36.N, .string x36.S]) (cs' := [iV x36.Kind, iV x36.N, .string x36.S]) 0 rfl rfl rfl rfl size38 rfl rfl rfl) ?_
      rintro _ _ rfl
      refine run ?_
      refine gR (rd_look2 (a := x36.N) (z := 0) 1 rfl map_rw rfl rfl Tryz.underlying88 (keyOk_int Tryz.underlying3) zero3) ?_
      refine run ?_
      obtain ⟨b38, hb38, h⟩ := bind_elim h
      refine G_segb 3 79 b38 ?_ ?_
      ·clear h
       refine G_case 76 rfl (fun g38 => ?_) (fun g38 => ?_)
       ·have h := cond_t g38 hb38
        refine G_rd (rd_boxS (us := [iV x36.Kind, iV x36.N, .string x36.S]) 0 rfl rfl agg38 rfl) rfl (g_tt g38 rfl) rfl ?_
        obtain ⟨y39, hy39, h⟩ := bind_elim h
        refine G_opd (op_callR (cell_leads_ok hy39) call160 rfl (mem_nil) cell_leads_free) rfl (g_tt g38 rfl) rfl ?_
        rintro _ _ ⟨_, ⟨rfl, rfl⟩, rfl⟩
        refine run ?_
        obtain rfl := Option.some.inj h
        exact G_joined sA (cv_sel [0, 1, 2, 3, 4, 5, 6] 7 rfl rfl)
       ·have h := cond_f g38 hb38
        refine run ?_
        obtain rfl := Option.some.inj h
        exact G_joined sA (cv_sel [0, 1, 2, 3, 4, 5, 6] 7 rfl rfl)
      refine run ?_
      refine G_cond rfl (fun g40 => ?_) (fun g40 => ?_)
      ·replace h := cond_t g40 h
       refine run ?_
       obtain ⟨x41, hx41, h⟩ := bind_elim h
       obtain ⟨lx41, ux41, hx41⟩ := getE_elim hx41
       refine gR (rd_idx 2 rfl els_own rfl rfl Tryz.underlying25 size38 lx41 ux41) ?_
       refine gR (rd_fa 2 rfl els_own rfl (toNat_lt lx41 ux41) fa_38_1) ?_
       refine gO (op_storeE (us := [iV ((lk p9 x36.N).getD 0)]) (z := (⟨x41.Kind, (lk p9 x36.N).getD 0, x41.S⟩ : DValue)) 2 rfl rfl rfl rfl size3 rfl (toNat_lt lx41 ux41) rfl (fun S w vs xk hk hr ho => by obtain rfl := Option.some.inj (hk.symm.trans hx41); rw [show _ = _ from hr]; rfl)) ?_
       rintro _ _ rfl
       refine run ?_
       exact ⟨_, _, ⟨List.set p31 p32.toNat (⟨x41.Kind, (lk p9 x36.N).getD 0, x41.S⟩ : DValue), A31, n31, c31, h, rfl, rfl⟩, sA, cv_sel [1, 2, 3, 4, 5, 6] 7 rfl rfl⟩
      ·replace h := cond_f g40 h
       refine run ?_
       exact ⟨_, _, ⟨p31, A31, n31, c31, h, rfl, rfl⟩, sA, cv_sel [1, 2, 3, 4, 5, 6] 7 rfl rfl⟩
     ·rintro _ _ ⟨p35, A35, n35, c35, h, rfl, rfl⟩
      refine G_region ?_
      obtain ⟨q42, h⟩ := req_elim h
      refine gE (ev_add rfl rfl q42.1 q42.2) ?_
      refine run ?_
      exact ⟨m30, _, _, Nat.lt_succ_self _, ⟨p35, p32 + 1, A35, n35, c35, h, rfl, rfl⟩, sA, cv_sel [0, 1, 2, 3, 4, 5] 6 rfl rfl⟩
    ·replace h := cond_f g33 h
     refine run ?_
     exact ⟨_, _, ⟨p31, A31, n31, c31, h, rfl, rfl⟩, sA, cv_sel [0, 1, 2, 3, 4, 5] 6 rfl rfl⟩
   ·rintro _ _ ⟨p29, A29, n29, c29, h, rfl, rfl⟩
    refine G_region ?_
    refine gE (ev_add rfl rfl (by decide) (by decide)) ?_
    refine run ?_
    refine Wr_s ?_
    refine run ?_
    refine G_seq ?_
    refine G_cond_t rfl ?_
    refine run ?_
    refine G_joinF (fun s L => ∃ (p44 : (List DValue)) (A44 : Option Addr) (n44 c44 : Nat), cell_Moved_j43 N p9 p29 y21 p44 = some r ∧ s = [(3, pV B5 0), (6, pV B6 0), (7, .map (some M7)), (55, .slice (some ⟨B27, 0, none⟩) 2 2), (56, iV 2), (57, iV 1)] ∧ L = [mapC ekI evI M7 p9, kO3 A29 n29 c29 p29, kO3 A44 n44 c44 p44, boxC B5 32 [iV y21.Kind, iV y21.Shape, iV y21.Flags, iV y21.Age, .slice A29 n29 c29, .slice A44 n44 c44], boxC B6 32 [iV 0, iV 0, iV 0, iV 0, .slice none 0 0, .slice none 0 0], boxC B27 25 [.slice A29 n29 c29, .slice A44 n44 c44]]) ?_ ?_
    ·refine run ?_
     refine gE (ev_idx rfl rfl Tryz.underlying146 size25 (by decide) (by decide)) ?_
     refine run ?_
     refine gR (rd_len 2 rfl els_own rfl Tryz.underlying25) ?_
     refine run ?_
     refine G_loopF (fun m s L => ∃ (p46 : (List DValue)) (p47 : Int) (A46 : Option Addr) (n46 c46 : Nat), cell_Moved_l45 N y21 p9 p29 m p46 p47 = some r ∧ s = [(3, pV B5 0), (6, pV B6 0), (7, .map (some M7)), (13, .slice A46 n46 c46), (55, .slice (some ⟨B27, 0, none⟩) 2 2), (56, iV 2), (57, iV 1), (61, .slice A46 n46 c46), (62, iV (y21.More.length : Int)), (63, iV p47)] ∧ L = [mapC ekI evI M7 p9, kO3 A46 n46 c46 p46, kO3 A29 n29 c29 p29, boxC B5 32 [iV y21.Kind, iV y21.Shape, iV y21.Flags, iV y21.Age, .slice A29 n29 c29, .slice A46 n46 c46], boxC B6 32 [iV 0, iV 0, iV 0, iV 0, .slice none 0 0, .slice none 0 0], boxC B27 25 [.slice A29 n29 c29, .slice A46 n46 c46]]) N _ _ ⟨y21.More, 0, A23, n23, c23, h, rfl, rfl⟩ sA (cv_sel [0, 2, 1, 3, 4, 5] 6 rfl rfl) ?_
     rintro (_ | m45) _ _ ⟨p46, p47, A46, n46, c46, h, rfl, rfl⟩
     ·exact none_some h
     rw [cell_Moved_l45_s] at h
     refine run ?_
     refine G_seq ?_
     refine G_cond rfl (fun g48 => ?_) (fun g48 => ?_)
     ·replace h := cond_t g48 h
      refine run ?_
      refine G_joinF (fun s L => ∃ (p50 : (List DValue)) (A50 : Option Addr) (n50 c50 : Nat), cell_Moved_j49 N (cell_Moved_l45 N y21 p9 p29 m45) y21 p47 p9 p29 p50 = some r ∧ s = [(3, pV B5 0), (6, pV B6 0), (7, .map (some M7)), (13, .slice A50 n50 c50), (55, .slice (some ⟨B27, 0, none⟩) 2 2), (56, iV 2), (57, iV 1), (61, .slice A50 n50 c50), (62, iV (y21.More.length : Int)), (63, iV p47)] ∧ L = [mapC ekI evI M7 p9, kO3 A50 n50 c50 p50, kO3 A29 n29 c29 p29, boxC B5 32 [iV y21.Kind, iV y21.Shape, iV y21.Flags, iV y21.Age, .slice A29 n29 c29, .slice A50 n50 c50], boxC B6 32 [iV 0, iV 0, iV 0, iV 0, .slice none 0 0, .slice none 0 0], boxC B27 25 [.slice A29 n29 c29, .slice A50 n50 c50]]) ?_ ?_
      ·refine run ?_
       obtain ⟨x51, hx51, h⟩ := bind_elim h
       obtain ⟨lx51, ux51, hx51⟩ := getE_elim hx51
       refine gR (rd_idx 1 rfl els_own rfl rfl Tryz.underlying25 size38 lx51 ux51) ?_
       refine gR (rd_elemS (us := [iV x51.Kind, iV x51.N, .string x51.S]) 1 rfl els_own rfl hx51 agg38 (fun _ _ _ h => by rw [show _ = _ from h]; rfl)) ?_
       refine gD (op_alloc zero38 rfl) ?_
       rintro _ _ ⟨B52, rfl, rfl⟩
       refine run ?_
       refine gO (op_store (us := [iV x51.Kind, iV x51.N, .string x51.S]) (cs' := [iV x51.Kind, iV x51.N, .string x51.S]) 0 rfl rfl rfl rfl size38 rfl rfl rfl) ?_
       rintro _ _ rfl
       refine G_norm ([boxC B52 38 [iV x51.Kind, iV x51.N, .string x51.S], mapC ekI evI M7 p9, kO3 A46 n46 c46 p46, kO3 A29 n29 c29 p29, boxC B5 32 [iV y21.Kind, iV y21.Shape, iV y21.Flags, iV y21.Age, .slice A29 n29 c29, .slice A46 n46 c46], boxC B6 32 [iV 0, iV 0, iV 0, iV 0, .slice none 0 0, .slice none 0 0], boxC B27 25 [.slice A29 n29 c29, .slice A46 n46 c46]]) rfl ?_
       refine run ?_
       refine gR (rd_look2 (a := x51.N) (z := 0) 1 rfl map_rw rfl rfl Tryz.underlying88 (keyOk_int Tryz.underlying3) zero3) ?_
       refine run ?_
       obtain ⟨b53, hb53, h⟩ := bind_elim h
       refine G_segb 3 79 b53 ?_ ?_
       ·clear h
        refine G_case 76 rfl (fun g53 => ?_) (fun g53 => ?_)
        ·have h := cond_t g53 hb53
         refine G_rd (rd_boxS (us := [iV x51.Kind, iV x51.N, .string x51.S]) 0 rfl rfl agg38 rfl) rfl (g_tt g53 rfl) rfl ?_
         obtain ⟨y54, hy54, h⟩ := bind_elim h
         refine G_opd (op_callR (cell_leads_ok hy54) call160 rfl (mem_nil) cell_leads_free) rfl (g_tt g53 rfl) rfl ?_
         rintro _ _ ⟨_, ⟨rfl, rfl⟩, rfl⟩
         refine run ?_
         obtain rfl := Option.some.inj h
         exact G_joined sA (cv_sel [0, 1, 2, 3, 4, 5, 6] 7 rfl rfl)
        ·have h := cond_f g53 hb53
         refine run ?_
         obtain rfl := Option.some.inj h
         exact G_joined sA (cv_sel [0, 1, 2, 3, 4, 5, 6] 7 rfl rfl)
       refine run ?_
       refine G_cond rfl (fun g55 => ?_) (fun g55 => ?_)
       ·replace h := cond_t g55 h
        refine run ?_
        obtain ⟨x56, hx56, h⟩ := bind_elim h
        obtain ⟨lx56, ux56, hx56⟩ := getE_elim hx56
        refine gR (rd_idx 2 rfl els_own rfl rfl Tryz.underlying25 size38 lx56 ux56) ?_
        refine gR (rd_fa 2 rfl els_own rfl (toNat_lt lx56 ux56) fa_38_1) ?_
        refine gO (op_storeE (us := [iV ((lk p9 x51.N).getD 0)]) (z := (⟨x56.Kind, (lk p9 x51.N).getD 0, x56.S⟩ : DValue)) 2 rfl rfl rfl rfl size3 rfl (toNat_lt lx56 ux56) rfl (fun S w vs xk hk hr ho => by obtain rfl := Option.some.inj (hk.symm.trans hx56); rw [show _ = _ from hr]; rfl)) ?_
        rintro _ _ rfl
        refine run ?_
        exact ⟨_, _, ⟨List.set p46 p47.toNat (⟨x56.Kind, (lk p9 x51.N).getD 0, x56.S⟩ : DValue), A46, n46, c46, h, rfl, rfl⟩, sA, cv_sel [1, 2, 3, 4, 5, 6] 7 rfl rfl⟩
       ·replace h := cond_f g55 h
        refine run ?_
        exact ⟨_, _, ⟨p46, A46, n46, c46, h, rfl, rfl⟩, sA, cv_sel [1, 2, 3, 4, 5, 6] 7 rfl rfl⟩
      ·rintro _ _ ⟨p50, A50, n50, c50, h, rfl, rfl⟩
       refine G_region ?_
       obtain ⟨q57, h⟩ := req_elim h
       refine gE (ev_add rfl rfl q57.1 q57.2) ?_
       refine run ?_
       exact ⟨m45, _, _, Nat.lt_succ_self _, ⟨p50, p47 + 1, A50, n50, c50, h, rfl, rfl⟩, sA, cv_sel [0, 1, 2, 3, 4, 5] 6 rfl rfl⟩
     ·replace h := cond_f g48 h
      refine run ?_
      exact ⟨_, _, ⟨p46, A46, n46, c46, h, rfl, rfl⟩, sA, cv_sel [0, 2, 1, 3, 4, 5] 6 rfl rfl⟩
    ·rintro _ _ ⟨p44, A44, n44, c44, h, rfl, rfl⟩
     refine G_region ?_
     refine gE (ev_add rfl rfl (by decide) (by decide)) ?_
     refine run ?_
     refine Wr_s ?_
     refine run ?_
     refine G_seq ?_
     refine G_cond_f rfl ?_
     refine run ?_
     exact ⟨_, _, ⟨p29, p44, A29, n29, c29, A44, n44, c44, h, rfl, rfl⟩, sA, cv_sel [1, 2, 3, 4] 6 rfl rfl⟩
  ·rintro _ _ ⟨p25, p26, A25, n25, c25, A26, n26, c26, h, rfl, rfl⟩
   refine run ?_
   refine gR (rd_boxS (us := [iV y21.Kind, iV y21.Shape, iV y21.Flags, iV y21.Age, .slice A25 n25 c25, .slice A26 n26 c26]) 2 rfl rfl agg32 rfl) ?_
   refine gO (op_store (us := [iV y21.Kind, iV y21.Shape, iV y21.Flags, iV y21.Age, .slice A25 n25 c25, .slice A26 n26 c26]) (cs' := [iV y21.Kind, iV y21.Shape, iV y21.Flags, iV y21.Age, .slice A25 n25 c25, .slice A26 n26 c26]) 3 rfl rfl rfl rfl size32 rfl rfl rfl) ?_
   rintro _ _ rfl
   refine run ?_
   obtain rfl := Option.some.inj h
   exact endGl (rs := [.cell 6 32]) (vs := [.agg #[iV y21.Kind, iV y21.Shape, iV y21.Flags, iV y21.Age, .slice A25 n25 c25, .slice A26 n26 c26]]) rfl (.cons (rv_boxS 3 rfl rfl agg32) .nil) rfl (cv_sel [0, 1] 4 rfl rfl) ⟨_, _, _, _, _, _, rfl, rfl⟩
theorem cell_Moved_free {r : DCell} : ∀ v post, ((fun (u : Value) (post : List Chunk) => ∃ A0 n0 c0 A1 n1 c1, u = .agg #[iV r.Kind, iV r.Shape, iV r.Flags, iV r.Age, .slice A0 n0 c0, .slice A1 n1 c1] ∧ post = [kO3 A0 n0 c0 r.Slots, kO3 A1 n1 c1 r.More])) v post → ∀ c ∈ post, Free c := by
 rintro _ _ ⟨_, _, _, _, _, _, rfl, rfl⟩; exact mem_cons free_own (mem_cons free_own (mem_nil))
def minor_moved_O (N : Nat) (a0 : (List DValue)) (a1 : (List Int)) (a2 : (List Int)) : Option (List DValue) :=
 (cell_Moved_O N (⟨0, 0, 0, 0, [], a0⟩ : DCell) a1 a2).bind fun y4 => some y4.More
theorem minor_moved_ok {N : Nat} {a0 : (List DValue)} {a1 : (List Int)} {a2 : (List Int)} {r : (List DValue)} (h : minor_moved_O N a0 a1 a2 = some r) {A1 : Option Addr} {n1 c1 : Nat} {A2 : Option Addr} {n2 c2 : Nat} {A3 : Option Addr} {n3 c3 : Nat} : Okc Tryz.prog 106 [.slice A1 n1 c1, .slice A2 n2 c2, .slice A3 n3 c3] ([kS0 A1 n1 c1 a0, kS5 A2 n2 c2 a1, kS5 A3 n3 c3 a2]) (fun (u : Value) (post : List Chunk) => ∃ A0 n0 c0, u = .slice A0 n0 c0 ∧ post = [kO3 A0 n0 c0 r]) := by
 refine ok_E Tryz.func106 rfl rfl ?_
 simp only [envOf]
 refine run ?_
 refine gE (ev_build rfl (bld_32_5 _ _ _)) ?_
 refine run ?_
 obtain ⟨y4, hy4, h⟩ := bind_elim h
 refine gD (op_callR (cell_Moved_ok hy4) call103 rfl (mem_cons (lent_nil) (mem_cons (lent_ro (i := 0) rfl rfl) (mem_cons (lent_ro (i := 1) rfl rfl) (mem_cons (lent_ro (i := 2) rfl rfl) mem_nil)))) cell_Moved_free) ?_
 rintro _ _ ⟨_, ⟨A5, n5, c5, A6, n6, c6, rfl, rfl⟩, rfl⟩
 refine gE (ev_field rfl (fld_32_5 _ _ _ _ _ _ _ _ _ _)) ?_
 refine run ?_
 obtain rfl := Option.some.inj h
 exact endG1 rfl rfl (cv_sel [1] 5 rfl rfl) ⟨_, _, _, rfl, rfl⟩
theorem minor_moved_free {r : (List DValue)} : ∀ v post, ((fun (u : Value) (post : List Chunk) => ∃ A0 n0 c0, u = .slice A0 n0 c0 ∧ post = [kO3 A0 n0 c0 r])) v post → ∀ c ∈ post, Free c := by
 rintro _ _ ⟨_, _, _, rfl, rfl⟩; exact mem_cons free_own (mem_nil)
end Go.Proofs.YtmbaennilhdieaaGreat