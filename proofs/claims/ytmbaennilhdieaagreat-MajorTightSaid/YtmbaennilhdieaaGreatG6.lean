/- Merged texts: part 6. No conditions of their own. -/
import Derived.Test.YtmbaennilhdieaaGreatG5
import Derived.Test.YtmbaennilhdieaaGreatG1
/- Pure functions and contracts of Go functions (printed by all3.py). -/
namespace Go.Proofs.YtmbaennilhdieaaGreat
open Go.RowKit Asn
set_option maxRecDepth 20000
def major_check_j38 (N : Nat) (a0 : DMemory) (p39 : (List Int)) : Option Int :=
 (slices_ContainsFunc_O N p39 (fun x => major_check_c1_O N x a0)).bind fun y54 => bif y54 then (some 50) else (some 0)
def major_check_j44 (N : Nat) (kb40 : (List Int) → Int → Option Int) (a1 : (List DValue)) (p42 : Int) (a0 : DMemory) (p45 : (List Int)) : Option Int :=
 req (in64 (p42 + 1)) (kb40 p45 (p42 + 1))
def major_check_l40 (N : Nat) (a1 : (List DValue)) (a0 : DMemory) : Nat → (List Int) → Int → Option Int
 | 0, _, _ => none
 | m40 + 1, p41, p42 => bif decide (p42 < (a1.length : Int)) then ((getE a1 p42).bind fun x46 => (bif decide (x46.Kind = 7) then (some true) else (some (decide (x46.Kind = 9)))).bind fun b48 => bif b48 then (req (fitsL (p41.length + ([x46.N] : List Int).length)) (major_check_j44 N (major_check_l40 N a1 a0 m40) a1 p42 a0 (p41 ++ ([x46.N] : List Int)))) else (major_check_j44 N (major_check_l40 N a1 a0 m40) a1 p42 a0 p41)) else (major_check_j38 N a0 p41)
theorem major_check_l40_s {N m40 : Nat} {a1 : (List DValue)} {a0 : DMemory} {p41 : (List Int)} {p42 : Int} : major_check_l40 N a1 a0 (m40 + 1) p41 p42 = bif decide (p42 < (a1.length : Int)) then ((getE a1 p42).bind fun x46 => (bif decide (x46.Kind = 7) then (some true) else (some (decide (x46.Kind = 9)))).bind fun b48 => bif b48 then (req (fitsL (p41.length + ([x46.N] : List Int).length)) (major_check_j44 N (major_check_l40 N a1 a0 m40) a1 p42 a0 (p41 ++ ([x46.N] : List Int)))) else (major_check_j44 N (major_check_l40 N a1 a0 m40) a1 p42 a0 p41)) else (major_check_j38 N a0 p41) := rfl
def major_check_j5 (N : Nat) (a1 : (List DValue)) (a0 : DMemory) (p6 : (List Int)) : Option Int :=
 major_check_l40 N a1 a0 N p6 0
def major_check_j13 (N : Nat) (kb8 : (List Int) → Int → Option Int) (a0 : DMemory) (p10 : Int) (a1 : (List DValue)) (p14 : (List Int)) : Option Int :=
 req (in64 (p10 + 1)) (kb8 p14 (p10 + 1))
def major_check_l17 (N : Nat) (kb8 : (List Int) → Int → Option Int) (a0 : DMemory) (p10 : Int) (x15 : (List DCell)) (a1 : (List DValue)) : Nat → (List Int) → Int → Option Int
 | 0, _, _ => none
 | m17 + 1, p18, p19 => bif decide (p19 < (x15.length : Int)) then ((getE x15 p19).bind fun x21 => (cell_Right_O N x21).bind fun y26 => bif !y26 then (some 51) else ((cell_Leads_O N x21).bind fun y28 => req (fitsL (p18.length + y28.length)) ((cell_Weakly_O N x21).bind fun y32 => req (fitsL ((p18 ++ y28).length + y32.length)) (req (in64 (p19 + 1)) ((major_check_l17 N kb8 a0 p10 x15 a1 m17) ((p18 ++ y28) ++ y32) (p19 + 1)))))) else (major_check_j13 N kb8 a0 p10 a1 p18)
theorem major_check_l17_s {N m17 : Nat} {kb8 : (List Int) → Int → Option Int} {a0 : DMemory} {p10 : Int} {x15 : (List DCell)} {a1 : (List DValue)} {p18 : (List Int)} {p19 : Int} : major_check_l17 N kb8 a0 p10 x15 a1 (m17 + 1) p18 p19 = bif decide (p19 < (x15.length : Int)) then ((getE x15 p19).bind fun x21 => (cell_Right_O N x21).bind fun y26 => bif !y26 then (some 51) else ((cell_Leads_O N x21).bind fun y28 => req (fitsL (p18.length + y28.length)) ((cell_Weakly_O N x21).bind fun y32 => req (fitsL ((p18 ++ y28).length + y32.length)) (req (in64 (p19 + 1)) ((major_check_l17 N kb8 a0 p10 x15 a1 m17) ((p18 ++ y28) ++ y32) (p19 + 1)))))) else (major_check_j13 N kb8 a0 p10 a1 p18) := rfl
def major_check_l8 (N : Nat) (a0 : DMemory) (a1 : (List DValue)) : Nat → (List Int) → Int → Option Int
 | 0, _, _ => none
 | m8 + 1, p9, p10 => bif decide (p10 < (([a0.Young, a0.Old] : List (List DCell)).length : Int)) then ((getE ([a0.Young, a0.Old] : List (List DCell)) p10).bind fun x15 => major_check_l17 N (major_check_l8 N a0 a1 m8) a0 p10 x15 a1 N p9 0) else (major_check_j5 N a1 a0 p9)
theorem major_check_l8_s {N m8 : Nat} {a0 : DMemory} {a1 : (List DValue)} {p9 : (List Int)} {p10 : Int} : major_check_l8 N a0 a1 (m8 + 1) p9 p10 = bif decide (p10 < (([a0.Young, a0.Old] : List (List DCell)).length : Int)) then ((getE ([a0.Young, a0.Old] : List (List DCell)) p10).bind fun x15 => major_check_l17 N (major_check_l8 N a0 a1 m8) a0 p10 x15 a1 N p9 0) else (major_check_j5 N a1 a0 p9) := rfl
def major_check_O (N : Nat) (a0 : DMemory) (a1 : (List DValue)) : Option Int :=
 major_check_l8 N a0 a1 N [] 0
theorem major_check_ok {N : Nat} {a0 : DMemory} {a1 : (List DValue)} {r : Int} (h : major_check_O N a0 a1 = some r) {A1 : Option Addr} {n1 c1 : Nat} {A2 : Option Addr} {n2 c2 : Nat} {A3 : Option Addr} {n3 c3 : Nat} : Okc Tryz.prog 78 [.agg #[.slice A1 n1 c1, .slice A2 n2 c2], .slice A3 n3 c3] ([kS1 A1 n1 c1 a0.Young, kS1 A2 n2 c2 a0.Old, kS0 A3 n3 c3 a1]) (fun (u : Value) (post : List Chunk) => u = iV r ∧ post = []) := by
 refine ok_E Tryz.func78 rfl rfl ?_
 simp only [envOf]
 refine run ?_
 refine gD (op_box rfl rfl) ?_
 rintro _ _ ⟨B4, rfl, rfl⟩
 refine run ?_
 refine G_joinF (fun s L => ∃ (p6 : (List Int)) (A6 : Option Addr) (n6 c6 : Nat), major_check_j5 N a1 a0 p6 = some r ∧ s = [(1, .slice A3 n3 c3), (2, pV B4 0), (4, iV 0), (5, .slice A6 n6 c6)] ∧ L = [kS0 A3 n3 c3 a1, kO2 A6 n6 c6 p6, kS1 A1 n1 c1 a0.Young, kS1 A2 n2 c2 a0.Old, boxC B4 24 [.slice A1 n1 c1, .slice A2 n2 c2]]) ?_ ?_
 ·refine run ?_
  refine gD (op_bslice (R := (Rep.sl rDCell)) (vss := [[.slice A1 n1 c1], [.slice A2 n2 c2]]) (xs := [a0.Young, a0.Old]) rfl (bsl_66_2 _ _ _ _ _ _) rfl rfl (fun _ _ hr => .cons (⟨_, rfl, hr 1 _ rfl rfl⟩) (.cons (⟨_, rfl, hr 2 _ rfl rfl⟩) All2.nil))) ?_
  rintro _ _ ⟨A7, n7, c7, rfl, rfl⟩
  refine gR (rd_len 0 rfl els_own rfl Tryz.underlying66) ?_
  refine run ?_
  refine G_loopF (fun m s L => ∃ (p9 : (List Int)) (p10 : Int) (A9 : Option Addr) (n9 c9 : Nat), major_check_l8 N a0 a1 m p9 p10 = some r ∧ s = [(1, .slice A3 n3 c3), (2, pV B4 0), (4, iV 0), (5, .slice A9 n9 c9), (16, .slice A7 n7 c7), (17, iV (([a0.Young, a0.Old] : List (List DCell)).length : Int)), (18, iV p10)] ∧ L = [kS0 A3 n3 c3 a1, kO2 A9 n9 c9 p9, ownC (Rep.sl rDCell) 22 (.slice A7 n7 c7) ([a0.Young, a0.Old] : List (List DCell)), kS1 A1 n1 c1 a0.Young, kS1 A2 n2 c2 a0.Old, boxC B4 24 [.slice A1 n1 c1, .slice A2 n2 c2]]) N _ _ ⟨[], 0, none, 0, 0, h, rfl, rfl⟩ sA ((cv_nil (rInt .i64) 3 _).trans (cv_sel [5, 0, 1, 3, 4, 2] 6 rfl rfl)) ?_
  rintro (_ | m8) _ _ ⟨p9, p10, A9, n9, c9, h, rfl, rfl⟩
  ·exact none_some h
  rw [major_check_l8_s] at h
  refine run ?_
  refine G_seq ?_
  refine G_cond rfl (fun g12 => ?_) (fun g12 => ?_)
  ·replace h := cond_t g12 h
   refine run ?_
   refine G_joinF (fun s L => ∃ (p14 : (List Int)) (A14 : Option Addr) (n14 c14 : Nat), major_check_j13 N (major_check_l8 N a0 a1 m8) a0 p10 a1 p14 = some r ∧ s = [(1, .slice A3 n3 c3), (2, pV B4 0), (4, iV 0), (5, .slice A14 n14 c14), (16, .slice A7 n7 c7), (17, iV (([a0.Young, a0.Old] : List (List DCell)).length : Int)), (18, iV p10)] ∧ L = [kS0 A3 n3 c3 a1, kO2 A14 n14 c14 p14, ownC (Rep.sl rDCell) 22 (.slice A7 n7 c7) ([a0.Young, a0.Old] : List (List DCell)), kS1 A1 n1 c1 a0.Young, kS1 A2 n2 c2 a0.Old, boxC B4 24 [.slice A1 n1 c1, .slice A2 n2 c2]]) ?_ ?_
   ·refine run ?_
    obtain ⟨x15, hx15, h⟩ := bind_elim h
    obtain ⟨lx15, ux15, hx15⟩ := getE_elim hx15
    refine gR (rd_idx 2 rfl els_own rfl rfl Tryz.underlying66 size22 lx15 ux15) ?_
    refine gD (op_elemL (R' := rDCell) (ys := x15) 2 rfl els_own rfl hx15 one22 (fun _ _ _ h => by obtain ⟨u, e, k⟩ := h; exact ⟨u, by rw [e]; rfl, k⟩)) ?_
    rintro _ _ ⟨A16, n16, c16, rfl, rfl⟩
    refine run ?_
    refine gR (rd_len 0 rfl els_sl rfl Tryz.underlying22) ?_
    refine run ?_
    refine G_loopF (fun m s L => ∃ (p18 : (List Int)) (p19 : Int) (A18 : Option Addr) (n18 c18 : Nat), major_check_l17 N (major_check_l8 N a0 a1 m8) a0 p10 x15 a1 m p18 p19 = some r ∧ s = [(1, .slice A3 n3 c3), (2, pV B4 0), (4, iV 0), (5, .slice A18 n18 c18), (16, .slice A7 n7 c7), (17, iV (([a0.Young, a0.Old] : List (List DCell)).length : Int)), (18, iV p10), (22, .slice A16 n16 c16), (23, iV (x15.length : Int)), (24, iV p19)] ∧ L = [kS0 A3 n3 c3 a1, kO2 A18 n18 c18 p18, ownC (Rep.sl rDCell) 22 (.slice A7 n7 c7) ([a0.Young, a0.Old] : List (List DCell)), kS1 A16 n16 c16 x15, kS1 A1 n1 c1 a0.Young, kS1 A2 n2 c2 a0.Old, boxC B4 24 [.slice A1 n1 c1, .slice A2 n2 c2]]) N _ _ ⟨p9, 0, A9, n9, c9, h, rfl, rfl⟩ sA (cv_sel [1, 2, 3, 0, 4, 5, 6] 7 rfl rfl) ?_
    rintro (_ | m17) _ _ ⟨p18, p19, A18, n18, c18, h, rfl, rfl⟩
    ·exact none_some h
    rw [major_check_l17_s] at h
    refine run ?_
    refine G_seq ?_
    refine G_cond rfl (fun g20 => ?_) (fun g20 => ?_)
    ·replace h := cond_t g20 h
     refine run ?_
     refine G_seq ?_
     refine run ?_
     obtain ⟨x21, hx21, h⟩ := bind_elim h
     obtain ⟨lx21, ux21, hx21⟩ := getE_elim hx21
     refine gR (rd_idx 3 rfl els_sl rfl rfl Tryz.underlying22 size32 lx21 ux21) ?_
     refine G_row 3 rfl hx21 (open_DCell x21) ?_
     rintro _ _ ⟨A22, n22, c22, A23, n23, c23, rfl, rfl⟩
     refine gR (rd_rowS (us := [iV x21.Kind, iV x21.Shape, iV x21.Flags, iV x21.Age, .slice A22 n22 c22, .slice A23 n23 c23]) 0 rfl rfl agg32 rfl) ?_
     refine gD (op_alloc zero32 rfl) ?_
     rintro _ _ ⟨B25, rfl, rfl⟩
     refine gO (op_store (us := [iV x21.Kind, iV x21.Shape, iV x21.Flags, iV x21.Age, .slice A22 n22 c22, .slice A23 n23 c23]) (cs' := [iV x21.Kind, iV x21.Shape, iV x21.Flags, iV x21.Age, .slice A22 n22 c22, .slice A23 n23 c23]) 0 rfl rfl rfl rfl size32 rfl rfl rfl) ?_
     rintro _ _ rfl
     refine run ?_
     refine G_seq ?_
     refine run ?_
     refine gR (rd_boxS (us := [iV x21.Kind, iV x21.Shape, iV x21.Flags, iV x21.Age, .slice A22 n22 c22, .slice A23 n23 c23]) 0 rfl rfl agg32 rfl) ?_
     obtain ⟨y26, hy26, h⟩ := bind_elim h
     refine gD (op_callR (cell_Right_ok hy26) call53 rfl (mem_cons (lent_ro (i := 2) rfl rfl) (mem_cons (lent_ro (i := 3) rfl rfl) mem_nil)) cell_Right_free) ?_
     rintro _ _ ⟨_, ⟨rfl, rfl⟩, rfl⟩
     refine run ?_
     refine G_cond rfl (fun g27 => ?_) (fun g27 => ?_)
     ·replace h := cond_t g27 h
      refine run ?_
      obtain rfl := Option.some.inj h
      exact endG1 rfl rfl (cv_sel [] 11 rfl rfl) ⟨rfl, rfl⟩
     ·replace h := cond_f g27 h
      refine run ?_
      refine G_drawn (by kernel_rfl) ([boxC B25 32 [iV x21.Kind, iV x21.Shape, iV x21.Flags, iV x21.Age, .slice A22 n22 c22, .slice A23 n23 c23], rowC (elemQ (.slice A16 n16 c16) p19.toNat 6 0) [iV x21.Kind, iV x21.Shape, iV x21.Flags, iV x21.Age, .slice A22 n22 c22, .slice A23 n23 c23], kS0 A22 n22 c22 x21.Slots, kS0 A23 n23 c23 x21.More, kS0 A3 n3 c3 a1, ownC (Rep.sl rDCell) 22 (.slice A7 n7 c7) ([a0.Young, a0.Old] : List (List DCell)), kS1 A16 n16 c16 x15, kS1 A1 n1 c1 a0.Young, kS1 A2 n2 c2 a0.Old, boxC B4 24 [.slice A1 n1 c1, .slice A2 n2 c2]]) (cv_sel [0, 1, 2, 3, 4, 6, 7, 8, 9, 10] 11 rfl rfl) ?_
      refine T3_ev 0 rfl (by kernel_rfl) (ev_move rfl) rfl rfl ?_
      refine T3_rd 1 rfl (by kernel_rfl) (rd_boxS (us := [iV x21.Kind, iV x21.Shape, iV x21.Flags, iV x21.Age, .slice A22 n22 c22, .slice A23 n23 c23]) 0 rfl rfl agg32 rfl) rfl rfl ?_
      refine T3_rd 4 rfl (by kernel_rfl) (rd_boxS (us := [iV x21.Kind, iV x21.Shape, iV x21.Flags, iV x21.Age, .slice A22 n22 c22, .slice A23 n23 c23]) 0 rfl rfl agg32 rfl) rfl rfl ?_
      obtain ⟨y28, hy28, h⟩ := bind_elim h
      refine T3_opd 2 rfl (by kernel_rfl) (op_callR (cell_Leads_ok hy28) call55 rfl (mem_cons (lent_ro (i := 2) rfl rfl) (mem_cons (lent_ro (i := 3) rfl rfl) mem_nil)) cell_Leads_free) rfl rfl rfl ?_
      rintro _ _ ⟨_, ⟨A29, n29, c29, rfl, rfl⟩, rfl⟩
      refine ⟨[boxC B25 32 [iV x21.Kind, iV x21.Shape, iV x21.Flags, iV x21.Age, .slice A22 n22 c22, .slice A23 n23 c23], rowC (elemQ (.slice A16 n16 c16) p19.toNat 6 0) [iV x21.Kind, iV x21.Shape, iV x21.Flags, iV x21.Age, .slice A22 n22 c22, .slice A23 n23 c23], kS0 A22 n22 c22 x21.Slots, kS0 A23 n23 c23 x21.More, kS0 A3 n3 c3 a1, ownC (Rep.sl rDCell) 22 (.slice A7 n7 c7) ([a0.Young, a0.Old] : List (List DCell)), kS1 A16 n16 c16 x15, kS1 A1 n1 c1 a0.Young, kS1 A2 n2 c2 a0.Old, boxC B4 24 [.slice A1 n1 c1, .slice A2 n2 c2]], cv_sel [1, 2, 3, 4, 5, 7, 8, 9, 10, 11] 12 rfl rfl, cv_refl _, ?_⟩
      obtain ⟨q30, h⟩ := req_elim h
      refine T3_opd 3 rfl (by kernel_rfl) (op_append 6 0 rfl rfl els_own rfl rfl Tryz.underlying35 zb3 rfl rfl q30) rfl rfl rfl ?_
      rintro _ _ ⟨A31, n31, c31, rfl, rfl⟩
      refine ⟨[boxC B25 32 [iV x21.Kind, iV x21.Shape, iV x21.Flags, iV x21.Age, .slice A22 n22 c22, .slice A23 n23 c23], rowC (elemQ (.slice A16 n16 c16) p19.toNat 6 0) [iV x21.Kind, iV x21.Shape, iV x21.Flags, iV x21.Age, .slice A22 n22 c22, .slice A23 n23 c23], kS0 A22 n22 c22 x21.Slots, kS0 A23 n23 c23 x21.More, kS0 A3 n3 c3 a1, ownC (Rep.sl rDCell) 22 (.slice A7 n7 c7) ([a0.Young, a0.Old] : List (List DCell)), kS1 A16 n16 c16 x15, kS1 A1 n1 c1 a0.Young, kS1 A2 n2 c2 a0.Old, boxC B4 24 [.slice A1 n1 c1, .slice A2 n2 c2]], cv_sel [1, 2, 3, 4, 5, 7, 8, 9, 10, 11] 12 rfl rfl, cv_refl _, ?_⟩
      refine T3_norm ([kO2 A29 n29 c29 y28, boxC B25 32 [iV x21.Kind, iV x21.Shape, iV x21.Flags, iV x21.Age, .slice A22 n22 c22, .slice A23 n23 c23], rowC (elemQ (.slice A16 n16 c16) p19.toNat 6 0) [iV x21.Kind, iV x21.Shape, iV x21.Flags, iV x21.Age, .slice A22 n22 c22, .slice A23 n23 c23], kS0 A22 n22 c22 x21.Slots, kS0 A23 n23 c23 x21.More, kS0 A3 n3 c3 a1, kO2 A31 n31 c31 (p18 ++ y28), ownC (Rep.sl rDCell) 22 (.slice A7 n7 c7) ([a0.Young, a0.Old] : List (List DCell)), kS1 A16 n16 c16 x15, kS1 A1 n1 c1 a0.Young, kS1 A2 n2 c2 a0.Old, boxC B4 24 [.slice A1 n1 c1, .slice A2 n2 c2]]) rfl ?_
      obtain ⟨y32, hy32, h⟩ := bind_elim h
      refine T3_opd 5 rfl (by kernel_rfl) (op_callR (cell_Weakly_ok hy32) call56 rfl (mem_cons (lent_ro (i := 3) rfl rfl) (mem_cons (lent_ro (i := 4) rfl rfl) mem_nil)) cell_Weakly_free) rfl rfl rfl ?_
      rintro _ _ ⟨_, ⟨A33, n33, c33, rfl, rfl⟩, rfl⟩
      refine ⟨[boxC B25 32 [iV x21.Kind, iV x21.Shape, iV x21.Flags, iV x21.Age, .slice A22 n22 c22, .slice A23 n23 c23], rowC (elemQ (.slice A16 n16 c16) p19.toNat 6 0) [iV x21.Kind, iV x21.Shape, iV x21.Flags, iV x21.Age, .slice A22 n22 c22, .slice A23 n23 c23], kS0 A22 n22 c22 x21.Slots, kS0 A23 n23 c23 x21.More, kS0 A3 n3 c3 a1, ownC (Rep.sl rDCell) 22 (.slice A7 n7 c7) ([a0.Young, a0.Old] : List (List DCell)), kS1 A16 n16 c16 x15, kS1 A1 n1 c1 a0.Young, kS1 A2 n2 c2 a0.Old, boxC B4 24 [.slice A1 n1 c1, .slice A2 n2 c2]], cv_sel [2, 3, 4, 5, 6, 8, 9, 10, 11, 12] 13 rfl rfl, cv_refl _, ?_⟩
      obtain ⟨q34, h⟩ := req_elim h
      refine T3_opd 6 rfl (by kernel_rfl) (op_append 7 0 rfl rfl els_own rfl rfl Tryz.underlying35 zb3 rfl rfl q34) rfl rfl rfl ?_
      rintro _ _ ⟨A35, n35, c35, rfl, rfl⟩
      refine ⟨[boxC B25 32 [iV x21.Kind, iV x21.Shape, iV x21.Flags, iV x21.Age, .slice A22 n22 c22, .slice A23 n23 c23], rowC (elemQ (.slice A16 n16 c16) p19.toNat 6 0) [iV x21.Kind, iV x21.Shape, iV x21.Flags, iV x21.Age, .slice A22 n22 c22, .slice A23 n23 c23], kS0 A22 n22 c22 x21.Slots, kS0 A23 n23 c23 x21.More, kS0 A3 n3 c3 a1, ownC (Rep.sl rDCell) 22 (.slice A7 n7 c7) ([a0.Young, a0.Old] : List (List DCell)), kS1 A16 n16 c16 x15, kS1 A1 n1 c1 a0.Young, kS1 A2 n2 c2 a0.Old, boxC B4 24 [.slice A1 n1 c1, .slice A2 n2 c2]], cv_sel [2, 3, 4, 5, 6, 8, 9, 10, 11, 12] 13 rfl rfl, cv_refl _, ?_⟩
      refine T3_norm ([kO2 A33 n33 c33 y32, kO2 A29 n29 c29 y28, boxC B25 32 [iV x21.Kind, iV x21.Shape, iV x21.Flags, iV x21.Age, .slice A22 n22 c22, .slice A23 n23 c23], rowC (elemQ (.slice A16 n16 c16) p19.toNat 6 0) [iV x21.Kind, iV x21.Shape, iV x21.Flags, iV x21.Age, .slice A22 n22 c22, .slice A23 n23 c23], kS0 A22 n22 c22 x21.Slots, kS0 A23 n23 c23 x21.More, kS0 A3 n3 c3 a1, kO2 A35 n35 c35 ((p18 ++ y28) ++ y32), ownC (Rep.sl rDCell) 22 (.slice A7 n7 c7) ([a0.Young, a0.Old] : List (List DCell)), kS1 A16 n16 c16 x15, kS1 A1 n1 c1 a0.Young, kS1 A2 n2 c2 a0.Old, boxC B4 24 [.slice A1 n1 c1, .slice A2 n2 c2]]) rfl ?_
      refine T3_ev 7 rfl (by kernel_rfl) (ev_assign rfl) rfl rfl ?_
      refine T3_done (by kernel_rfl) ?_
      refine run ?_
      obtain ⟨q36, h⟩ := req_elim h
      refine gE (ev_add rfl rfl q36.1 q36.2) ?_
      refine run ?_
      exact ⟨m17, _, _, Nat.lt_succ_self _, ⟨(p18 ++ y28) ++ y32, p19 + 1, A35, n35, c35, h, rfl, rfl⟩, sA, cv_sel [6, 7, 8, 9, 10, 11, 12] 13 rfl rfl⟩
    ·replace h := cond_f g20 h
     refine run ?_
     exact ⟨_, _, ⟨p18, A18, n18, c18, h, rfl, rfl⟩, sA, cv_sel [0, 1, 2, 4, 5, 6] 7 rfl rfl⟩
   ·rintro _ _ ⟨p14, A14, n14, c14, h, rfl, rfl⟩
    refine G_region ?_
    obtain ⟨q37, h⟩ := req_elim h
    refine gE (ev_add rfl rfl q37.1 q37.2) ?_
    refine run ?_
    exact ⟨m8, _, _, Nat.lt_succ_self _, ⟨p14, p10 + 1, A14, n14, c14, h, rfl, rfl⟩, sA, cv_sel [0, 1, 2, 3, 4, 5] 6 rfl rfl⟩
  ·replace h := cond_f g12 h
   refine run ?_
   exact ⟨_, _, ⟨p9, A9, n9, c9, h, rfl, rfl⟩, sA, cv_sel [0, 1, 3, 4, 5] 6 rfl rfl⟩
 ·rintro _ _ ⟨p6, A6, n6, c6, h, rfl, rfl⟩
  refine G_joinF (fun s L => ∃ (p39 : (List Int)) (A39 : Option Addr) (n39 c39 : Nat), major_check_j38 N a0 p39 = some r ∧ s = [(2, pV B4 0), (4, iV 0), (5, .slice A39 n39 c39)] ∧ L = [kO2 A39 n39 c39 p39, kS1 A1 n1 c1 a0.Young, kS1 A2 n2 c2 a0.Old, boxC B4 24 [.slice A1 n1 c1, .slice A2 n2 c2]]) ?_ ?_
  ·refine run ?_
   refine gR (rd_len 0 rfl els_sl rfl Tryz.underlying25) ?_
   refine run ?_
   refine G_loopF (fun m s L => ∃ (p41 : (List Int)) (p42 : Int) (A41 : Option Addr) (n41 c41 : Nat), major_check_l40 N a1 a0 m p41 p42 = some r ∧ s = [(2, pV B4 0), (4, iV 0), (5, .slice A41 n41 c41), (40, .slice A3 n3 c3), (41, iV (a1.length : Int)), (42, iV p42)] ∧ L = [kO2 A41 n41 c41 p41, kS0 A3 n3 c3 a1, kS1 A1 n1 c1 a0.Young, kS1 A2 n2 c2 a0.Old, boxC B4 24 [.slice A1 n1 c1, .slice A2 n2 c2]]) N _ _ ⟨p6, 0, A6, n6, c6, h, rfl, rfl⟩ sA (cv_sel [1, 0, 2, 3, 4] 5 rfl rfl) ?_
   rintro (_ | m40) _ _ ⟨p41, p42, A41, n41, c41, h, rfl, rfl⟩
   ·exact none_some h
   rw [major_check_l40_s] at h
   refine run ?_
   refine G_seq ?_
   refine G_cond rfl (fun g43 => ?_) (fun g43 => ?_)
   ·replace h := cond_t g43 h
    refine run ?_
    refine G_joinF (fun s L => ∃ (p45 : (List Int)) (A45 : Option Addr) (n45 c45 : Nat), major_check_j44 N (major_check_l40 N a1 a0 m40) a1 p42 a0 p45 = some r ∧ s = [(2, pV B4 0), (4, iV 0), (5, .slice A45 n45 c45), (40, .slice A3 n3 c3), (41, iV (a1.length : Int)), (42, iV p42)] ∧ L = [kO2 A45 n45 c45 p45, kS0 A3 n3 c3 a1, kS1 A1 n1 c1 a0.Young, kS1 A2 n2 c2 a0.Old, boxC B4 24 [.slice A1 n1 c1, .slice A2 n2 c2]]) ?_ ?_
    ·refine run ?_
     obtain ⟨x46, hx46, h⟩ := bind_elim h
     obtain ⟨lx46, ux46, hx46⟩ := getE_elim hx46
     refine gR (rd_idx 1 rfl els_sl rfl rfl Tryz.underlying25 size38 lx46 ux46) ?_
     refine gR (rd_elemS (us := [iV x46.Kind, iV x46.N, .string x46.S]) 1 rfl els_sl rfl hx46 agg38 (fun _ _ _ h => by rw [show _ = _ from h]; rfl)) ?_
     refine gD (op_alloc zero38 rfl) ?_
     rintro _ _ ⟨B47, rfl, rfl⟩
     refine gO (op_store (us := [iV x46.Kind, iV x46.N, .string x46.S]) (cs' := [iV x46.Kind, iV x46.N, .string x46.S]) 0 rfl rfl rfl rfl size38 rfl rfl rfl) ?_
     rintro _ _ rfl
     refine run ?_
     obtain ⟨b48, hb48, h⟩ := bind_elim h
     refine G_segb 4 53 b48 ?_ ?_
     ·clear h
      refine G_case 49 rfl (fun g48 => ?_) (fun g48 => ?_)
      ·have h := cond_t g48 hb48
       refine run ?_
       obtain rfl := Option.some.inj h
       exact G_joined sA (cv_sel [0, 1, 2, 3, 4, 5] 6 rfl rfl)
      ·have h := cond_f g48 hb48
       refine run ?_
       obtain rfl := Option.some.inj h
       exact G_joined sA (cv_sel [0, 1, 2, 3, 4, 5] 6 rfl rfl)
     refine run ?_
     refine G_cond rfl (fun g49 => ?_) (fun g49 => ?_)
     ·replace h := cond_t g49 h
      refine run ?_
      refine gD (op_bslice (R := (rInt .i64)) (vss := [[iV x46.N]]) (xs := [x46.N]) rfl (bsl_35_1 _) rfl rfl (fun _ _ hr => .cons rfl All2.nil)) ?_
      rintro _ _ ⟨A50, n50, c50, rfl, rfl⟩
      obtain ⟨q51, h⟩ := req_elim h
      refine gD (op_append 2 0 rfl rfl els_own rfl rfl Tryz.underlying35 zb3 rfl rfl q51) ?_
      rintro _ _ ⟨A52, n52, c52, rfl, rfl⟩
      refine G_norm ([kO2 A50 n50 c50 ([x46.N] : List Int), boxC B47 38 [iV x46.Kind, iV x46.N, .string x46.S], kO2 A52 n52 c52 (p41 ++ ([x46.N] : List Int)), kS0 A3 n3 c3 a1, kS1 A1 n1 c1 a0.Young, kS1 A2 n2 c2 a0.Old, boxC B4 24 [.slice A1 n1 c1, .slice A2 n2 c2]]) rfl ?_
      refine run ?_
      exact ⟨_, _, ⟨p41 ++ ([x46.N] : List Int), A52, n52, c52, h, rfl, rfl⟩, sA, cv_sel [2, 3, 4, 5, 6] 7 rfl rfl⟩
     ·replace h := cond_f g49 h
      refine run ?_
      exact ⟨_, _, ⟨p41, A41, n41, c41, h, rfl, rfl⟩, sA, cv_sel [1, 2, 3, 4, 5] 6 rfl rfl⟩
    ·rintro _ _ ⟨p45, A45, n45, c45, h, rfl, rfl⟩
     refine G_region ?_
     obtain ⟨q53, h⟩ := req_elim h
     refine gE (ev_add rfl rfl q53.1 q53.2) ?_
     refine run ?_
     exact ⟨m40, _, _, Nat.lt_succ_self _, ⟨p45, p42 + 1, A45, n45, c45, h, rfl, rfl⟩, sA, cv_sel [0, 1, 2, 3, 4] 5 rfl rfl⟩
   ·replace h := cond_f g43 h
    refine run ?_
    exact ⟨_, _, ⟨p41, A41, n41, c41, h, rfl, rfl⟩, sA, cv_sel [0, 2, 3, 4] 5 rfl rfl⟩
  ·rintro _ _ ⟨p39, A39, n39, c39, h, rfl, rfl⟩
   refine G_seq ?_
   refine run ?_
   refine gE (ev_makeFunc rfl) ?_
   obtain ⟨y54, hy54, h⟩ := bind_elim h
   refine gD (op_callR (slices_ContainsFunc_ok hy54 ⟨mem_cons rfl (mem_cons rfl (mem_cons rfl mem_nil)), 130, #[], #[pV B4 0], rfl, call130, fun _ _ hh => major_check_c1_ok hh⟩) call54 rfl (mem_cons (lent_own (i := 0) rfl) (mem_cons (lent_box (i := 3) rfl) (mem_cons (lent_ro (i := 1) rfl rfl) (mem_cons (lent_ro (i := 2) rfl rfl) mem_nil)))) slices_ContainsFunc_free) ?_
   rintro _ _ ⟨_, ⟨rfl, rfl⟩, rfl⟩
   refine run ?_
   refine G_cond rfl (fun g55 => ?_) (fun g55 => ?_)
   ·replace h := cond_t g55 h
    refine run ?_
    obtain rfl := Option.some.inj h
    exact endG1 rfl rfl (cv_sel [] 4 rfl rfl) ⟨rfl, rfl⟩
   ·replace h := cond_f g55 h
    refine run ?_
    obtain rfl := Option.some.inj h
    exact endG1 rfl rfl (cv_sel [] 4 rfl rfl) ⟨rfl, rfl⟩
theorem major_check_free {r : Int} : ∀ v post, ((fun (u : Value) (post : List Chunk) => u = iV r ∧ post = [])) v post → ∀ c ∈ post, Free c := by
 rintro _ _ ⟨rfl, rfl⟩; exact mem_nil
def finreg_is_O (N : Nat) (a0 : DCell) : Option Bool :=
 (bif decide (a0.Kind = 10) then ((cell_Right_O N a0).bind fun y5 => some y5) else (some false)).bind fun b4 => some b4
theorem finreg_is_ok {N : Nat} {a0 : DCell} {r : Bool} (h : finreg_is_O N a0 = some r) {A1 : Option Addr} {n1 c1 : Nat} {A2 : Option Addr} {n2 c2 : Nat} : Okc Tryz.prog 135 [.agg #[iV a0.Kind, iV a0.Shape, iV a0.Flags, iV a0.Age, .slice A1 n1 c1, .slice A2 n2 c2]] ([kS0 A1 n1 c1 a0.Slots, kS0 A2 n2 c2 a0.More]) (fun (u : Value) (post : List Chunk) => u = .bool r ∧ post = []) := by
 refine ok_E Tryz.func135 rfl rfl ?_
 simp only [envOf]
 refine run ?_
 refine gD (op_box rfl rfl) ?_
 rintro _ _ ⟨B3, rfl, rfl⟩
 refine run ?_
 obtain ⟨b4, hb4, h⟩ := bind_elim h
 refine G_segb 3 9 b4 ?_ ?_
 ·clear h
  refine G_case 6 rfl (fun g4 => ?_) (fun g4 => ?_)
  ·have h := cond_t g4 hb4
   refine G_rd (rd_boxS (us := [iV a0.Kind, iV a0.Shape, iV a0.Flags, iV a0.Age, .slice A1 n1 c1, .slice A2 n2 c2]) 0 rfl rfl agg32 rfl) rfl (g_tt g4 rfl) rfl ?_
   obtain ⟨y5, hy5, h⟩ := bind_elim h
   refine G_opd (op_callR (cell_Right_ok hy5) call53 rfl (mem_cons (lent_ro (i := 1) rfl rfl) (mem_cons (lent_ro (i := 2) rfl rfl) mem_nil)) cell_Right_free) rfl (g_tt g4 rfl) rfl ?_
   rintro _ _ ⟨_, ⟨rfl, rfl⟩, rfl⟩
   refine run ?_
   obtain rfl := Option.some.inj h
   exact G_joined sA (cv_sel [0, 1, 2] 3 rfl rfl)
  ·have h := cond_f g4 hb4
   refine run ?_
   obtain rfl := Option.some.inj h
   exact G_joined sA (cv_sel [0, 1, 2] 3 rfl rfl)
 refine run ?_
 obtain rfl := Option.some.inj h
 exact endG1 rfl rfl (cv_sel [] 3 rfl rfl) ⟨rfl, rfl⟩
theorem finreg_is_free {r : Bool} : ∀ v post, ((fun (u : Value) (post : List Chunk) => u = .bool r ∧ post = [])) v post → ∀ c ∈ post, Free c := by
 rintro _ _ ⟨rfl, rfl⟩; exact mem_nil
def finreg_bare_O (N : Nat) (a0 : DCell) : Option DCell :=
 (slices_Clone_O N a0.Slots).bind fun y5 => (getE a0.More 0).bind fun x7 => some (⟨a0.Kind, a0.Shape, a0.Flags, a0.Age, y5, ([x7] : List DValue)⟩ : DCell)
theorem finreg_bare_ok {N : Nat} {a0 : DCell} {r : DCell} (h : finreg_bare_O N a0 = some r) {A1 : Option Addr} {n1 c1 : Nat} {A2 : Option Addr} {n2 c2 : Nat} : Okc Tryz.prog 136 [.agg #[iV a0.Kind, iV a0.Shape, iV a0.Flags, iV a0.Age, .slice A1 n1 c1, .slice A2 n2 c2]] ([kS0 A1 n1 c1 a0.Slots, kS0 A2 n2 c2 a0.More]) (fun (u : Value) (post : List Chunk) => ∃ A0 n0 c0 A1 n1 c1, u = .agg #[iV r.Kind, iV r.Shape, iV r.Flags, iV r.Age, .slice A0 n0 c0, .slice A1 n1 c1] ∧ post = [kO3 A0 n0 c0 r.Slots, kO3 A1 n1 c1 r.More]) := by
 refine ok_E Tryz.func136 rfl rfl ?_
 simp only [envOf]
 refine run ?_
 refine gD (op_box rfl rfl) ?_
 rintro _ _ ⟨B3, rfl, rfl⟩
 refine gD (op_alloc zero32 rfl) ?_
 rintro _ _ ⟨B4, rfl, rfl⟩
 refine run ?_
 obtain ⟨y5, hy5, h⟩ := bind_elim h
 refine gD (op_callR (slices_Clone_ok hy5) call108 rfl (mem_cons (lent_ro (i := 2) rfl rfl) mem_nil) slices_Clone_free) ?_
 rintro _ _ ⟨_, ⟨A6, n6, c6, rfl, rfl⟩, rfl⟩
 refine run ?_
 refine gO (op_store (us := [.slice A6 n6 c6]) (cs' := [iV a0.Kind, iV a0.Shape, iV a0.Flags, iV a0.Age, .slice A6 n6 c6, .slice A2 n2 c2]) 2 rfl rfl rfl rfl size25 rfl rfl rfl) ?_
 rintro _ _ rfl
 refine run ?_
 obtain ⟨x7, hx7, h⟩ := bind_elim h
 obtain ⟨lx7, ux7, hx7⟩ := getE_elim hx7
 refine gR (rd_idx 4 rfl els_sl rfl rfl Tryz.underlying25 size38 lx7 ux7) ?_
 refine gR (rd_elemS (us := [iV x7.Kind, iV x7.N, .string x7.S]) 4 rfl els_sl rfl hx7 agg38 (fun _ _ _ h => by rw [show _ = _ from h]; rfl)) ?_
 refine gD (op_bslice (R := rDValue) (vss := [[iV x7.Kind, iV x7.N, .string x7.S]]) (xs := [x7]) rfl (bsl_25_1 _ _ _) rfl rfl (fun _ _ hr => .cons rfl All2.nil)) ?_
 rintro _ _ ⟨A8, n8, c8, rfl, rfl⟩
 refine run ?_
 refine gO (op_store (us := [.slice A8 n8 c8]) (cs' := [iV a0.Kind, iV a0.Shape, iV a0.Flags, iV a0.Age, .slice A6 n6 c6, .slice A8 n8 c8]) 3 rfl rfl rfl rfl size25 rfl rfl rfl) ?_
 rintro _ _ rfl
 refine run ?_
 refine gR (rd_boxS (us := [iV a0.Kind, iV a0.Shape, iV a0.Flags, iV a0.Age, .slice A6 n6 c6, .slice A8 n8 c8]) 3 rfl rfl agg32 rfl) ?_
 refine gO (op_store (us := [iV a0.Kind, iV a0.Shape, iV a0.Flags, iV a0.Age, .slice A6 n6 c6, .slice A8 n8 c8]) (cs' := [iV a0.Kind, iV a0.Shape, iV a0.Flags, iV a0.Age, .slice A6 n6 c6, .slice A8 n8 c8]) 2 rfl rfl rfl rfl size32 rfl rfl rfl) ?_
 rintro _ _ rfl
 refine G_norm ([kO3 A8 n8 c8 ([x7] : List DValue), kO3 A6 n6 c6 y5, boxC B4 32 [iV a0.Kind, iV a0.Shape, iV a0.Flags, iV a0.Age, .slice A6 n6 c6, .slice A8 n8 c8], boxC B3 32 [iV a0.Kind, iV a0.Shape, iV a0.Flags, iV a0.Age, .slice A6 n6 c6, .slice A8 n8 c8], kS0 A1 n1 c1 a0.Slots, kS0 A2 n2 c2 a0.More]) rfl ?_
 refine run ?_
 obtain rfl := Option.some.inj h
 exact endGl (rs := [.cell 2 32]) (vs := [.agg #[iV a0.Kind, iV a0.Shape, iV a0.Flags, iV a0.Age, .slice A6 n6 c6, .slice A8 n8 c8]]) rfl (.cons (rv_boxS 2 rfl rfl agg32) .nil) rfl (cv_sel [1, 0] 6 rfl rfl) ⟨_, _, _, _, _, _, rfl, rfl⟩
theorem finreg_bare_free {r : DCell} : ∀ v post, ((fun (u : Value) (post : List Chunk) => ∃ A0 n0 c0 A1 n1 c1, u = .agg #[iV r.Kind, iV r.Shape, iV r.Flags, iV r.Age, .slice A0 n0 c0, .slice A1 n1 c1] ∧ post = [kO3 A0 n0 c0 r.Slots, kO3 A1 n1 c1 r.More])) v post → ∀ c ∈ post, Free c := by
 rintro _ _ ⟨_, _, _, _, _, _, rfl, rfl⟩; exact mem_cons free_own (mem_cons free_own (mem_nil))
def finreg_entries_c1_l4 (N : Nat) {σ : Type} (fy : (Int × (List DValue)) → σ → Option (Bool × σ)) (a1 : DCell) : Nat → Int → σ → Option σ
 | 0, _, _ => none
 | m4 + 1, p5, p6 => req (in64 (p5 + 4)) (bif decide (p5 + 4 ≤ (a1.More.length : Int)) then (req (in64 (p5 + 4)) (req (in64 (p5 + 4)) (req ((0 : Int) ≤ p5 ∧ (0 : Int) ≤ p5 + 4 ∧ p5.toNat ≤ (p5 + 4).toNat ∧ (p5 + 4).toNat ≤ a1.More.length) ((fy (p5, (a1.More.drop p5.toNat).take ((p5 + 4).toNat - p5.toNat)) p6).bind fun y13 => bif !y13.1 then (some y13.2) else (req (in64 (p5 + 4)) ((finreg_entries_c1_l4 N fy a1 m4) (p5 + 4) y13.2)))))) else (some p6))
theorem finreg_entries_c1_l4_s {N m4 : Nat} {σ : Type} {fy : (Int × (List DValue)) → σ → Option (Bool × σ)} {a1 : DCell} {p5 : Int} {p6 : σ} : finreg_entries_c1_l4 N fy a1 (m4 + 1) p5 p6 = req (in64 (p5 + 4)) (bif decide (p5 + 4 ≤ (a1.More.length : Int)) then (req (in64 (p5 + 4)) (req (in64 (p5 + 4)) (req ((0 : Int) ≤ p5 ∧ (0 : Int) ≤ p5 + 4 ∧ p5.toNat ≤ (p5 + 4).toNat ∧ (p5 + 4).toNat ≤ a1.More.length) ((fy (p5, (a1.More.drop p5.toNat).take ((p5 + 4).toNat - p5.toNat)) p6).bind fun y13 => bif !y13.1 then (some y13.2) else (req (in64 (p5 + 4)) ((finreg_entries_c1_l4 N fy a1 m4) (p5 + 4) y13.2)))))) else (some p6)) := rfl
def finreg_entries_c1_O (N : Nat) {σ : Type} (a1 : DCell) (fy : (Int × (List DValue)) → σ → Option (Bool × σ)) (s0 : σ) : Option σ :=
 finreg_entries_c1_l4 N fy a1 N 1 s0
theorem finreg_entries_c1_ok {N : Nat} {σ : Type} {a1 : DCell} {fy : (Int × (List DValue)) → σ → Option (Bool × σ)} {s0 : σ} {r : σ} (h : finreg_entries_c1_O N a1 fy s0 = some r) {B1 : Nat} {A2 : Option Addr} {n2 c2 : Nat} {A3 : Option Addr} {n3 c3 : Nat} {l : Nat} {G : σ → List Chunk} (hY : YieldOkR Tryz.prog l G (fun (x : Int × (List DValue)) vs cs => ∃ A1 n1 c1, vs = [iV x.1, .slice A1 n1 c1] ∧ cs = [kS0 A1 n1 c1 x.2]) fy) : Okc Tryz.prog 180 [.func (.yield l) #[] #[], pV B1 0] (rboxC B1 32 [iV a1.Kind, iV a1.Shape, iV a1.Flags, iV a1.Age, .slice A2 n2 c2, .slice A3 n3 c3] :: kS0 A2 n2 c2 a1.Slots :: kS0 A3 n3 c3 a1.More :: (G s0)) (fun (u : Value) (post : List Chunk) => u = .tuple #[] ∧ post = G r) := by
 refine ok_E Tryz.func180 rfl rfl ?_
 simp only [envOf]
 refine run ?_
 refine G_loopF (fun m s L => ∃ (p5 : Int) (p6 : σ), finreg_entries_c1_l4 N fy a1 m p5 p6 = some r ∧ s = [(0, .func (.yield l) #[] #[]), (1, pV B1 0), (3, iV p5)] ∧ L = kS0 A2 n2 c2 a1.Slots :: kS0 A3 n3 c3 a1.More :: rboxC B1 32 [iV a1.Kind, iV a1.Shape, iV a1.Flags, iV a1.Age, .slice A2 n2 c2, .slice A3 n3 c3] :: (G p6)) N _ _ ⟨1, s0, h, rfl, rfl⟩ sA (cv_sel [1, 2, 0] 3 rfl rfl) ?_
 rintro (_ | m4) _ _ ⟨p5, p6, h, rfl, rfl⟩
 ·exact none_some h
 rw [finreg_entries_c1_l4_s] at h
 refine G_seq ?_
 refine run ?_
 obtain ⟨q7, h⟩ := req_elim h
 refine gE (ev_add rfl rfl q7.1 q7.2) ?_
 refine run ?_
 refine gR (rd_rbox1 2 rfl rfl one25 rfl) ?_
 refine gR (rd_len 1 rfl els_sl rfl Tryz.underlying25) ?_
 refine run ?_
 refine G_cond rfl (fun g8 => ?_) (fun g8 => ?_)
 ·replace h := cond_t g8 h
  refine run ?_
  refine G_seq ?_
  refine run ?_
  refine gR (rd_rbox1 2 rfl rfl one25 rfl) ?_
  refine run ?_
  obtain ⟨q9, h⟩ := req_elim h
  refine gE (ev_add rfl rfl q9.1 q9.2) ?_
  refine run ?_
  obtain ⟨q10, h⟩ := req_elim h
  refine gE (ev_add rfl rfl q10.1 q10.2) ?_
  obtain ⟨q11, h⟩ := req_elim h
  refine G_cut3 1 rfl (l := p5.toNat) (h := (p5 + 4).toNat) q11.2.2.1 q11.2.2.2 ?_
  rintro A12 n12 c12 e12
  refine gR (rd_cut3 2 rfl e12 rfl Tryz.underlying25 size38 rfl (by rw [Int.toNat_of_nonneg q11.1]; rfl) (by rw [Int.toNat_of_nonneg q11.2.1]; rfl) (by rw [Int.toNat_of_nonneg q11.2.1]; rfl) q11.2.2.1 q11.2.2.2) ?_
  obtain ⟨y13, hy13, h⟩ := bind_elim h
  refine gD (op_yieldR (a := (p5, (a1.More.drop p5.toNat).take ((p5 + 4).toNat - p5.toNat))) [kS0 A12 n12 c12 ((a1.More.drop p5.toNat).take ((p5 + 4).toNat - p5.toNat)), kS0 A2 n2 c2 a1.Slots, kS0 A3 n3 c3 a1.More, rboxC B1 32 [iV a1.Kind, iV a1.Shape, iV a1.Flags, iV a1.Age, .slice A2 n2 c2, .slice A3 n3 c3]] hY hy13 rfl rfl ⟨_, _, _, rfl, rfl⟩ (cv_dup 0 rfl rfl)) ?_
  rintro _ _ ⟨rfl, rfl⟩
  refine run ?_
  refine G_cond rfl (fun g14 => ?_) (fun g14 => ?_)
  ·replace h := cond_t g14 h
   refine run ?_
   obtain rfl := Option.some.inj h
   exact endG0 rfl (cv_sel [] 4 rfl rfl) ⟨rfl, rfl⟩
  ·replace h := cond_f g14 h
   refine run ?_
   obtain ⟨q15, h⟩ := req_elim h
   refine gE (ev_add rfl rfl q15.1 q15.2) ?_
   refine run ?_
   exact ⟨m4, _, _, Nat.lt_succ_self _, ⟨p5 + 4, y13.2, h, rfl, rfl⟩, sA, cv_sel [1, 2, 3] 4 rfl rfl⟩
 ·replace h := cond_f g8 h
  refine run ?_
  obtain rfl := Option.some.inj h
  exact endG0n rfl (cv_sel [] 3 rfl rfl) ⟨rfl, rfl⟩
def finreg_entries_O (N : Nat) (a0 : DCell) : Option Unit :=
 some ()
theorem finreg_entries_ok {N : Nat} {a0 : DCell} {r : Unit} (h : finreg_entries_O N a0 = some r) {A1 : Option Addr} {n1 c1 : Nat} {A2 : Option Addr} {n2 c2 : Nat} : Okc Tryz.prog 137 [.agg #[iV a0.Kind, iV a0.Shape, iV a0.Flags, iV a0.Age, .slice A1 n1 c1, .slice A2 n2 c2]] ([kS0 A1 n1 c1 a0.Slots, kS0 A2 n2 c2 a0.More]) (fun (u : Value) (post : List Chunk) => ∃ B900, u = .func (.func 180) #[] #[pV B900 0] ∧ post = [boxC B900 32 [iV a0.Kind, iV a0.Shape, iV a0.Flags, iV a0.Age, .slice A1 n1 c1, .slice A2 n2 c2]]) := by
 refine ok_E Tryz.func137 rfl rfl ?_
 simp only [envOf]
 refine run ?_
 refine gD (op_box rfl rfl) ?_
 rintro _ _ ⟨B3, rfl, rfl⟩
 refine run ?_
 refine gE (ev_makeFunc rfl) ?_
 refine run ?_
 obtain rfl := Option.some.inj h
 exact endG1 rfl rfl (cv_sel [0] 3 rfl rfl) ⟨_, rfl, rfl⟩
theorem finreg_entries_free {a0 : DCell} {A1 : Option Addr} {n1 : Nat} {c1 : Nat} {A2 : Option Addr} {n2 : Nat} {c2 : Nat} : ∀ v post, ((fun (u : Value) (post : List Chunk) => ∃ B900, u = .func (.func 180) #[] #[pV B900 0] ∧ post = [boxC B900 32 [iV a0.Kind, iV a0.Shape, iV a0.Flags, iV a0.Age, .slice A1 n1 c1, .slice A2 n2 c2]])) v post → ∀ c ∈ post, Free c := by
 rintro _ _ ⟨_, rfl, rfl⟩; exact mem_cons free_box (mem_nil)
def finreg_Clean_j45 (N : Nat) (x28 : (Int × (List DValue))) (a0 : DCell) (p14 : (List (Int × Bool))) (y21 : (DCell)) (p30 : (List DValue)) (p31 : (List DValue)) (p46 : Int) (p47 : Int) (p48 : ByteArray) : Option (Option Exit × (List DValue) × (List DValue)) :=
 (getE x28.2 0).bind fun x51 => (getE x28.2 1).bind fun x52 => (getE x28.2 3).bind fun x53 => req (fitsL (p30.length + ([x51, x52, (⟨p46, p47, p48⟩ : DValue), x53] : List DValue).length)) (some (none, (p30 ++ ([x51, x52, (⟨p46, p47, p48⟩ : DValue), x53] : List DValue), p31)))
def finreg_Clean_b28 (N : Nat) (a0 : DCell) (p14 : (List (Int × Bool))) (y21 : (DCell)) (x28 : Int × (List DValue)) : ((List DValue) × (List DValue)) → Option (Option Exit × ((List DValue) × (List DValue)))
 |(p30, p31) => (getE x28.2 0).bind fun x34 => bif !((lk p14 x34.N).getD false) then ((getE a0.More 0).bind fun x36 => (getE x28.2 1).bind fun x37 => (getE x28.2 3).bind fun x38 => req (fitsL (p31.length + ([x36, x37, x38] : List DValue).length)) (some (none, (p30, p31 ++ ([x36, x37, x38] : List DValue))))) else ((getE x28.2 2).bind fun x43 => (bif decide (x43.Kind = 7) then (some (!((lk p14 x43.N).getD false))) else (some false)).bind fun b49 => bif b49 then (finreg_Clean_j45 N x28 a0 p14 y21 p30 p31 0 0 (⟨#[]⟩)) else (finreg_Clean_j45 N x28 a0 p14 y21 p30 p31 x43.Kind x43.N x43.S))
def finreg_Clean_j13 (N : Nat) (a0 : DCell) (p14 : (List (Int × Bool))) : Option (DCell × (List DValue)) :=
 (finreg_bare_O N a0).bind fun y21 => (finreg_entries_O N a0).bind fun y26 => (finreg_entries_c1_O N a0 (liftR (fun x st => finreg_Clean_b28 N a0 p14 y21 x st)) (none, (y21.More, []))).bind fun y32 => caseX y32.1 (some ((⟨y21.Kind, y21.Shape, y21.Flags, y21.Age, y21.Slots, y32.2.1⟩ : DCell), y32.2.2)) none (fun _ => none)
def finreg_Clean_l15 (N : Nat) (a1 : (List Int)) (a0 : DCell) : Nat → Int → (List (Int × Bool)) → Option (DCell × (List DValue))
 | 0, _, _ => none
 | m15 + 1, p16, p17 => bif decide (p16 < (a1.length : Int)) then ((getE a1 p16).bind fun x19 => req (in64 (p16 + 1)) ((finreg_Clean_l15 N a1 a0 m15) (p16 + 1) (upL p17 x19 true))) else (finreg_Clean_j13 N a0 p17)
theorem finreg_Clean_l15_s {N m15 : Nat} {a1 : (List Int)} {a0 : DCell} {p16 : Int} {p17 : (List (Int × Bool))} : finreg_Clean_l15 N a1 a0 (m15 + 1) p16 p17 = bif decide (p16 < (a1.length : Int)) then ((getE a1 p16).bind fun x19 => req (in64 (p16 + 1)) ((finreg_Clean_l15 N a1 a0 m15) (p16 + 1) (upL p17 x19 true))) else (finreg_Clean_j13 N a0 p17) := rfl
def finreg_Clean_O (N : Nat) (a0 : DCell) (a1 : (List Int)) : Option (DCell × (List DValue)) :=
 (finreg_is_O N a0).bind fun y6 => bif !y6 then (some ((⟨0, 0, 0, 0, [], []⟩ : DCell), [])) else (finreg_Clean_l15 N a1 a0 N 0 ([] : (List (Int × Bool))))
set_option maxHeartbeats 4000000 in
theorem finreg_Clean_ok {N : Nat} {a0 : DCell} {a1 : (List Int)} {r : (DCell × (List DValue))} (h : finreg_Clean_O N a0 a1 = some r) {A1 : Option Addr} {n1 c1 : Nat} {A2 : Option Addr} {n2 c2 : Nat} {A3 : Option Addr} {n3 c3 : Nat} : Okc Tryz.prog 81 [.agg #[iV a0.Kind, iV a0.Shape, iV a0.Flags, iV a0.Age, .slice A1 n1 c1, .slice A2 n2 c2], .slice A3 n3 c3] ([kS0 A1 n1 c1 a0.Slots, kS0 A2 n2 c2 a0.More, kS5 A3 n3 c3 a1]) (fun (u : Value) (post : List Chunk) => ∃ A0 n0 c0 A1 n1 c1 A2 n2 c2, u = .tuple #[.agg #[iV r.1.Kind, iV r.1.Shape, iV r.1.Flags, iV r.1.Age, .slice A0 n0 c0, .slice A1 n1 c1], .slice A2 n2 c2] ∧ post = [kO3 A0 n0 c0 r.1.Slots, kO3 A1 n1 c1 r.1.More, kO3 A2 n2 c2 r.2]) := by
 refine ok_E Tryz.func81 rfl rfl ?_
 simp only [envOf]
 refine run ?_
 refine gD (op_box rfl rfl) ?_
 rintro _ _ ⟨B4, rfl, rfl⟩
 refine gD (op_alloc zero32 rfl) ?_
 rintro _ _ ⟨B5, rfl, rfl⟩
 refine run ?_
 refine G_seq ?_
 refine run ?_
 refine gR (rd_boxS (us := [iV a0.Kind, iV a0.Shape, iV a0.Flags, iV a0.Age, .slice A1 n1 c1, .slice A2 n2 c2]) 1 rfl rfl agg32 rfl) ?_
 obtain ⟨y6, hy6, h⟩ := bind_elim h
 refine gD (op_callR (finreg_is_ok hy6) call135 rfl (mem_cons (lent_ro (i := 2) rfl rfl) (mem_cons (lent_ro (i := 3) rfl rfl) mem_nil)) finreg_is_free) ?_
 rintro _ _ ⟨_, ⟨rfl, rfl⟩, rfl⟩
 refine run ?_
 refine G_cond rfl (fun g7 => ?_) (fun g7 => ?_)
 ·replace h := cond_t g7 h
  refine run ?_
  refine gE (ev_build rfl (bld_32_)) ?_
  refine gO (op_store (us := [iV 0, iV 0, iV 0, iV 0, .slice none 0 0, .slice none 0 0]) (cs' := [iV 0, iV 0, iV 0, iV 0, .slice none 0 0, .slice none 0 0]) 0 rfl rfl rfl rfl size32 rfl rfl rfl) ?_
  rintro _ _ rfl
  refine run ?_
  obtain rfl := Option.some.inj h
  exact endGl (rs := [.cell 4 32, .tmp 5]) (vs := [.agg #[iV 0, iV 0, iV 0, iV 0, .slice none 0 0, .slice none 0 0], .slice none 0 0]) rfl (.cons (rv_boxS 0 rfl rfl agg32) (.cons (rv_tmp rfl) .nil)) rfl ((cv_nil rDValue 38 _).trans ((cv_nil rDValue 38 _).trans ((cv_nil rDValue 38 _).trans (cv_sel [2, 1, 0] 8 rfl rfl)))) ⟨_, _, _, _, _, _, _, _, _, rfl, rfl⟩
 ·replace h := cond_f g7 h
  refine run ?_
  refine gR (rd_len 4 rfl els_sl rfl Tryz.underlying35) ?_
  refine gD (op_makeMapN (ek := ekI) (ev := evB) rfl Tryz.underlying107) ?_
  rintro _ _ ⟨M11, rfl, rfl⟩
  refine gD (op_alloc zero107 rfl) ?_
  rintro _ _ ⟨B12, rfl, rfl⟩
  refine gO (op_store (us := [.map (some M11)]) (cs' := [.map (some M11)]) 0 rfl rfl rfl rfl size107 rfl rfl rfl) ?_
  rintro _ _ rfl
  refine run ?_
  refine G_joinF (fun s L => ∃ (p14 : (List (Int × Bool))), finreg_Clean_j13 N a0 p14 = some r ∧ s = [(2, pV B4 0), (4, pV B5 0), (5, .slice none 0 0), (6, pV B12 0)] ∧ L = [kS0 A1 n1 c1 a0.Slots, kS0 A2 n2 c2 a0.More, boxC B4 32 [iV a0.Kind, iV a0.Shape, iV a0.Flags, iV a0.Age, .slice A1 n1 c1, .slice A2 n2 c2], boxC B5 32 [iV 0, iV 0, iV 0, iV 0, .slice none 0 0, .slice none 0 0], mapC ekI evB M11 p14, boxC B12 107 [.map (some M11)]]) ?_ ?_
  ·refine run ?_
   refine gR (rd_len 6 rfl els_sl rfl Tryz.underlying35) ?_
   refine run ?_
   refine G_loopF (fun m s L => ∃ (p16 : Int) (p17 : (List (Int × Bool))), finreg_Clean_l15 N a1 a0 m p16 p17 = some r ∧ s = [(2, pV B4 0), (4, pV B5 0), (5, .slice none 0 0), (6, pV B12 0), (21, .slice A3 n3 c3), (22, iV (a1.length : Int)), (23, iV p16)] ∧ L = [kS5 A3 n3 c3 a1, kS0 A1 n1 c1 a0.Slots, kS0 A2 n2 c2 a0.More, boxC B4 32 [iV a0.Kind, iV a0.Shape, iV a0.Flags, iV a0.Age, .slice A1 n1 c1, .slice A2 n2 c2], boxC B5 32 [iV 0, iV 0, iV 0, iV 0, .slice none 0 0, .slice none 0 0], mapC ekI evB M11 p17, boxC B12 107 [.map (some M11)]]) N _ _ ⟨0, ([] : (List (Int × Bool))), h, rfl, rfl⟩ sA (cv_sel [6, 4, 5, 3, 2, 1, 0] 7 rfl rfl) ?_
   rintro (_ | m15) _ _ ⟨p16, p17, h, rfl, rfl⟩
   ·exact none_some h
   rw [finreg_Clean_l15_s] at h
   refine run ?_
   refine G_seq ?_
   refine G_cond rfl (fun g18 => ?_) (fun g18 => ?_)
   ·replace h := cond_t g18 h
    refine run ?_
    refine G_seq ?_
    refine run ?_
    obtain ⟨x19, hx19, h⟩ := bind_elim h
    obtain ⟨lx19, ux19, hx19⟩ := getE_elim hx19
    refine gR (rd_idx 0 rfl els_sl rfl rfl Tryz.underlying35 size3 lx19 ux19) ?_
    refine gR (rd_elem1 (u := iV x19) 0 rfl els_sl rfl hx19 one3 (fun _ _ _ h => by rw [show _ = _ from h]; rfl)) ?_
    refine run ?_
    refine gO (op_mapUpdate (a := x19) (b := true) 5 rfl rfl rfl rfl Tryz.underlying107 (keyOk_int Tryz.underlying3)) ?_
    rintro _ _ rfl
    refine G_norm ([kS5 A3 n3 c3 a1, kS0 A1 n1 c1 a0.Slots, kS0 A2 n2 c2 a0.More, boxC B4 32 [iV a0.Kind, iV a0.Shape, iV a0.Flags, iV a0.Age, .slice A1 n1 c1, .slice A2 n2 c2], boxC B5 32 [iV 0, iV 0, iV 0, iV 0, .slice none 0 0, .slice none 0 0], mapC ekI evB M11 (upL p17 x19 true), boxC B12 107 [.map (some M11)]]) rfl ?_
    refine run ?_
    obtain ⟨q20, h⟩ := req_elim h
    refine gE (ev_add rfl rfl q20.1 q20.2) ?_
    refine run ?_
    exact ⟨m15, _, _, Nat.lt_succ_self _, ⟨p16 + 1, upL p17 x19 true, h, rfl, rfl⟩, sA, cv_sel [0, 1, 2, 3, 4, 5, 6] 7 rfl rfl⟩
   ·replace h := cond_f g18 h
    refine run ?_
    exact ⟨_, _, ⟨p17, h, rfl, rfl⟩, sA, cv_sel [1, 2, 3, 4, 5, 6] 7 rfl rfl⟩
  ·rintro _ _ ⟨p14, h, rfl, rfl⟩
   refine run ?_
   refine gR (rd_boxS (us := [iV a0.Kind, iV a0.Shape, iV a0.Flags, iV a0.Age, .slice A1 n1 c1, .slice A2 n2 c2]) 2 rfl rfl agg32 rfl) ?_
   obtain ⟨y21, hy21, h⟩ := bind_elim h
   refine gD (op_callR (finreg_bare_ok hy21) call136 rfl (mem_cons (lent_ro (i := 0) rfl rfl) (mem_cons (lent_ro (i := 1) rfl rfl) mem_nil)) finreg_bare_free) ?_
   rintro _ _ ⟨_, ⟨A22, n22, c22, A23, n23, c23, rfl, rfl⟩, rfl⟩
   refine gD (op_alloc zero32 rfl) ?_
   rintro _ _ ⟨B24, rfl, rfl⟩
   refine gO (op_store (us := [iV y21.Kind, iV y21.Shape, iV y21.Flags, iV y21.Age, .slice A22 n22 c22, .slice A23 n23 c23]) (cs' := [iV y21.Kind, iV y21.Shape, iV y21.Flags, iV y21.Age, .slice A22 n22 c22, .slice A23 n23 c23]) 0 rfl rfl rfl rfl size32 rfl rfl rfl) ?_
   rintro _ _ rfl
   refine run ?_
   refine gD (op_alloc zero25 rfl) ?_
   rintro _ _ ⟨B25, rfl, rfl⟩
   refine run ?_
   refine G_seq ?_
   refine run ?_
   refine gR (rd_boxS (us := [iV a0.Kind, iV a0.Shape, iV a0.Flags, iV a0.Age, .slice A1 n1 c1, .slice A2 n2 c2]) 6 rfl rfl agg32 rfl) ?_
   obtain ⟨y26, hy26, h⟩ := bind_elim h
   refine gD (op_callR (finreg_entries_ok hy26) call137 rfl (mem_cons (lent_ro (i := 4) rfl rfl) (mem_cons (lent_ro (i := 5) rfl rfl) mem_nil)) finreg_entries_free) ?_
   rintro _ _ ⟨_, ⟨B27, rfl, rfl⟩, rfl⟩
   refine G_nil ?_
   refine nx_n ?_
   refine G_sub ?_ sub_refl (cv_frzbox 0 rfl)
   obtain ⟨y32, hy32, h⟩ := bind_elim h
   refine G_rangeXR (R := (fun (x : Int × (List DValue)) vs cs => ∃ A1 n1 c1, vs = [iV x.1, .slice A1 n1 c1] ∧ cs = [kS0 A1 n1 c1 x.2])) (fun x st => finreg_Clean_b28 N a0 p14 y21 x st) (fun (st : (List DValue) × (List DValue)) (mz : ((Option Addr × Nat × Nat) × (Option Addr × Nat × Nat))) => [kS0 A1 n1 c1 a0.Slots, kS0 A2 n2 c2 a0.More, boxC B4 32 [iV a0.Kind, iV a0.Shape, iV a0.Flags, iV a0.Age, .slice A1 n1 c1, .slice A2 n2 c2], boxC B5 32 [iV 0, iV 0, iV 0, iV 0, .slice none 0 0, .slice none 0 0], mapC ekI evB M11 p14, boxC B12 107 [.map (some M11)], kO3 A22 n22 c22 y21.Slots, ownC rDValue 38 (.slice mz.1.1 mz.1.2.1 mz.1.2.2) st.1, boxC B24 32 [iV y21.Kind, iV y21.Shape, iV y21.Flags, iV y21.Age, .slice A22 n22 c22, .slice mz.1.1 mz.1.2.1 mz.1.2.2], ownC rDValue 38 (.slice mz.2.1 mz.2.2.1 mz.2.2.2) st.2, boxC B25 25 [.slice mz.2.1 mz.2.2.1 mz.2.2.2]]) [rboxC B27 32 [iV a0.Kind, iV a0.Shape, iV a0.Flags, iV a0.Age, .slice A1 n1 c1, .slice A2 n2 c2], kS0 A1 n1 c1 a0.Slots, kS0 A2 n2 c2 a0.More] ((y21.More, [])) (((A23, n23, c23), (none, 0, 0))) rfl rfl call180 rfl (by rintro _ _ _ ⟨_, _, _, rfl, rfl⟩; rfl) (fun l G hY => (finreg_entries_c1_ok hy32 hY).mono fun _ _ hh => hh.2) ((cv_nil rDValue 38 _).trans (cv_take [1, 6, 7] [] [6, 7, 8, 9, 10, 11, 4, 5, 3, 0, 2] 12 rfl)) h ?_ ?_ ?_ ?_
   ·rintro l x28 ⟨p30, p31⟩ je sr28 ⟨⟨A30, n30, c30⟩, ⟨A31, n31, c31⟩⟩ h _ _ ⟨A29, n29, c29, rfl, rfl⟩
    replace h : finreg_Clean_b28 N a0 p14 y21 x28 (p30, p31) = some (je, sr28) := h
    simp only [envR, List.zip_cons_cons, List.zip_nil_left, List.zip_nil_right, List.reverse_cons, List.reverse_nil, List.nil_append, List.cons_append]
    refine run ?_
    refine G_seq ?_
    refine G_seq ?_
    refine G_drawn (by kernel_rfl) _ (cv_refl _) ?_
    refine T3_rd 0 rfl (by kernel_rfl) (rd_box1 6 rfl rfl one107 rfl) rfl rfl ?_
    refine T3_ev 1 rfl (by kernel_rfl) (ev_move rfl) rfl rfl ?_
    obtain ⟨x34, hx34, h⟩ := bind_elim h
    obtain ⟨lx34, ux34, hx34⟩ := getE_elim hx34
    refine T3_rd 2 rfl (by kernel_rfl) (rd_idx 0 rfl els_sl rfl rfl Tryz.underlying25 size38 lx34 ux34) rfl rfl ?_
    refine T3_rd 3 rfl (by kernel_rfl) (rd_fa 0 rfl els_sl rfl (toNat_lt lx34 ux34) fa_38_1) rfl rfl ?_
    refine T3_rd 4 rfl (by kernel_rfl) (rd_elem1 (u := iV x34.N) 0 rfl els_sl rfl hx34 one3 (fun _ _ _ h => by rw [show _ = _ from h]; rfl)) rfl rfl ?_
    refine T3_rd 5 rfl (by kernel_rfl) (rd_look1 (a := x34.N) (z := false) 5 rfl map_rw rfl rfl Tryz.underlying107 (keyOk_int Tryz.underlying3) zero4) rfl rfl ?_
    refine T3_ev 6 rfl (by kernel_rfl) (ev_not rfl) rfl rfl ?_
    refine T3_done (by kernel_rfl) ?_
    refine nx_n ?_
    refine G_cond rfl (fun g35 => ?_) (fun g35 => ?_)
    ·replace h := cond_t g35 h
     refine G_seq ?_
     obtain ⟨x36, hx36, h⟩ := bind_elim h
     obtain ⟨lx36, ux36, hx36⟩ := getE_elim hx36
     obtain ⟨x37, hx37, h⟩ := bind_elim h
     obtain ⟨lx37, ux37, hx37⟩ := getE_elim hx37
     obtain ⟨x38, hx38, h⟩ := bind_elim h
     obtain ⟨lx38, ux38, hx38⟩ := getE_elim hx38
     refine G_sub (t := [(2, pV B4 0), (4, pV B5 0), (5, .slice none 0 0), (6, pV B12 0), (9, pV B24 0), (10, pV B25 0), (12, .slice A29 n29 c29)]) ?_ subT (cv_refl _)
     refine G_monoX (by kernel_rfl) 12 [] [0, 11] [43, 44, 45, 46, 47, 48, 49, 50, 51, 52, 53, 54] [[], [], [1], [2], [3], [], [5], [6], [], [8], [9], [4, 7, 10]] [aV (.slice A31 n31 c31),
 aV (pV B4 5),
 aV (.slice A2 n2 c2),
 aV (elemQ (.slice A2 n2 c2) ((0 : Int).toNat) 3 0),
 aV (.agg #[iV x36.Kind, iV x36.N, .string x36.S]),
 aV (.slice A29 n29 c29),
 aV (elemQ (.slice A29 n29 c29) ((1 : Int).toNat) 3 0),
 aV (.agg #[iV x37.Kind, iV x37.N, .string x37.S]),
 aV (.slice A29 n29 c29),
 aV (elemQ (.slice A29 n29 c29) ((3 : Int).toNat) 3 0),
 aV (.agg #[iV x38.Kind, iV x38.N, .string x38.S]),
 aX3 (fun (A40 : Option Addr) (n40 c40 : Nat) => .slice A40 n40 c40) (fun A40 n40 c40 => [kO3 A40 n40 c40 ([x36, x37, x38] : List DValue)])] [] (cv_refl _) (qB_nil) (by kernel_rfl) rfl rfl ?_ ?_ ?_
     ·exact qs_nil
     ·refine steps_cons rfl ?_ ?_
      ·refine X_op (op_bslice (R := rDValue) (vss := [[iV x36.Kind, iV x36.N, .string x36.S], [iV x37.Kind, iV x37.N, .string x37.S], [iV x38.Kind, iV x38.N, .string x38.S]]) (xs := [x36, x37, x38]) rfl (bsl_25_3 _ _ _ _ _ _ _ _ _) rfl rfl (fun _ _ hr => .cons rfl (.cons rfl (.cons rfl All2.nil)))) rfl ?_
       rintro _ _ ⟨A39, n39, c39, rfl, rfl⟩
       exact cvp3 A39 n39 c39 (cv_refl _)
      refine steps_cons rfl ?_ ?_
      ·exact X_rd (rd_elemS (us := [iV x38.Kind, iV x38.N, .string x38.S]) 0 rfl els_sl rfl hx38 agg38 (fun _ _ _ h => by rw [show _ = _ from h]; rfl)) rfl (cvpV rfl (cv_refl _))
      refine steps_cons rfl ?_ ?_
      ·exact X_rd (rd_idx 0 rfl els_sl rfl rfl Tryz.underlying25 size38 lx38 ux38) rfl (cvpV rfl (cv_refl _))
      refine steps_cons rfl ?_ ?_
      ·exact X_ev (ev_move rfl) rfl (cvpV rfl (cv_refl _))
      refine steps_cons rfl ?_ ?_
      ·exact X_rd (rd_elemS (us := [iV x37.Kind, iV x37.N, .string x37.S]) 0 rfl els_sl rfl hx37 agg38 (fun _ _ _ h => by rw [show _ = _ from h]; rfl)) rfl (cvpV rfl (cv_refl _))
      refine steps_cons rfl ?_ ?_
      ·exact X_rd (rd_idx 0 rfl els_sl rfl rfl Tryz.underlying25 size38 lx37 ux37) rfl (cvpV rfl (cv_refl _))
      refine steps_cons rfl ?_ ?_
      ·exact X_ev (ev_move rfl) rfl (cvpV rfl (cv_refl _))
      refine steps_cons rfl ?_ ?_
      ·exact X_rd (rd_elemS (us := [iV x36.Kind, iV x36.N, .string x36.S]) 2 rfl els_sl rfl hx36 agg38 (fun _ _ _ h => by rw [show _ = _ from h]; rfl)) rfl (cvpV rfl (cv_refl _))
      refine steps_cons rfl ?_ ?_
      ·exact X_rd (rd_idx 2 rfl els_sl rfl rfl Tryz.underlying25 size38 lx36 ux36) rfl (cvpV rfl (cv_refl _))
      refine steps_cons rfl ?_ ?_
      ·exact X_rd (rd_box1 3 rfl rfl one25 rfl) rfl (cvpV rfl (cv_refl _))
      refine steps_cons rfl ?_ ?_
      ·exact X_ev (ev_fa rfl fa_32_5) rfl (cvpV rfl (cv_refl _))
      refine steps_cons rfl ?_ ?_
      ·exact X_rd (rd_box1 11 rfl rfl one25 rfl) rfl (cvpV rfl (cv_refl _))
      exact steps_nil
     ·intro A40 n40 c40
      refine N_sub (t := [(43, .slice A31 n31 c31), (54, .slice A40 n40 c40), (2, pV B4 0), (4, pV B5 0), (5, .slice none 0 0), (6, pV B12 0), (9, pV B24 0), (10, pV B25 0), (12, .slice A29 n29 c29)]) (L' := [kO3 A40 n40 c40 ([x36, x37, x38] : List DValue), kS0 A29 n29 c29 x28.2, kS0 A1 n1 c1 a0.Slots, kS0 A2 n2 c2 a0.More, boxC B4 32 [iV a0.Kind, iV a0.Shape, iV a0.Flags, iV a0.Age, .slice A1 n1 c1, .slice A2 n2 c2], boxC B5 32 [iV 0, iV 0, iV 0, iV 0, .slice none 0 0, .slice none 0 0], mapC ekI evB M11 p14, boxC B12 107 [.map (some M11)], kO3 A22 n22 c22 y21.Slots, kO3 A30 n30 c30 p30, boxC B24 32 [iV y21.Kind, iV y21.Shape, iV y21.Flags, iV y21.Age, .slice A22 n22 c22, .slice A30 n30 c30], kO3 A31 n31 c31 p31, boxC B25 25 [.slice A31 n31 c31]]) ?_ subT (cv_refl _)
      obtain ⟨q41, h⟩ := req_elim h
      refine N_opd 12 rfl (by kernel_rfl) (op_append 11 0 rfl rfl els_own rfl rfl Tryz.underlying25 zb38 rfl rfl q41) rfl rfl rfl ?_
      rintro _ _ ⟨A42, n42, c42, rfl, rfl⟩
      refine N_norm ([kO3 A40 n40 c40 ([x36, x37, x38] : List DValue), kS0 A29 n29 c29 x28.2, kS0 A1 n1 c1 a0.Slots, kS0 A2 n2 c2 a0.More, boxC B4 32 [iV a0.Kind, iV a0.Shape, iV a0.Flags, iV a0.Age, .slice A1 n1 c1, .slice A2 n2 c2], boxC B5 32 [iV 0, iV 0, iV 0, iV 0, .slice none 0 0, .slice none 0 0], mapC ekI evB M11 p14, boxC B12 107 [.map (some M11)], kO3 A22 n22 c22 y21.Slots, kO3 A30 n30 c30 p30, boxC B24 32 [iV y21.Kind, iV y21.Shape, iV y21.Flags, iV y21.Age, .slice A22 n22 c22, .slice A30 n30 c30], kO3 A42 n42 c42 (p31 ++ ([x36, x37, x38] : List DValue)), boxC B25 25 [.slice A31 n31 c31]]) rfl ?_
      refine N_opn 13 rfl (by kernel_rfl) (op_store (us := [.slice A42 n42 c42]) (cs' := [.slice A42 n42 c42]) 12 rfl rfl rfl rfl size25 rfl rfl rfl) rfl rfl ?_
      rintro _ _ rfl
      refine N_done (by kernel_rfl) ?_
      refine run ?_
      obtain ⟨rfl, rfl⟩ := Prod.mk.inj (Option.some.inj h)
      exact RK_n ((cv_sel [2, 3, 4, 5, 6, 7, 8, 9, 10, 11, 12] 13 rfl rfl).trans (cv_pack1 ((A30, n30, c30), (A42, n42, c42)) rfl))
    ·replace h := cond_f g35 h
     refine run ?_
     obtain ⟨x43, hx43, h⟩ := bind_elim h
     obtain ⟨lx43, ux43, hx43⟩ := getE_elim hx43
     refine gR (rd_idx 0 rfl els_sl rfl rfl Tryz.underlying25 size38 lx43 ux43) ?_
     refine gR (rd_elemS (us := [iV x43.Kind, iV x43.N, .string x43.S]) 0 rfl els_sl rfl hx43 agg38 (fun _ _ _ h => by rw [show _ = _ from h]; rfl)) ?_
     refine gD (op_alloc zero38 rfl) ?_
     rintro _ _ ⟨B44, rfl, rfl⟩
     refine gO (op_store (us := [iV x43.Kind, iV x43.N, .string x43.S]) (cs' := [iV x43.Kind, iV x43.N, .string x43.S]) 0 rfl rfl rfl rfl size38 rfl rfl rfl) ?_
     rintro _ _ rfl
     refine run ?_
     refine G_joinF (fun s L => ∃ (p46 : Int) (p47 : Int) (p48 : ByteArray), finreg_Clean_j45 N x28 a0 p14 y21 p30 p31 p46 p47 p48 = some (je, sr28) ∧ s = [(2, pV B4 0), (4, pV B5 0), (5, .slice none 0 0), (6, pV B12 0), (9, pV B24 0), (10, pV B25 0), (12, .slice A29 n29 c29), (13, pV B44 0)] ∧ L = [kS0 A29 n29 c29 x28.2, kS0 A1 n1 c1 a0.Slots, kS0 A2 n2 c2 a0.More, boxC B4 32 [iV a0.Kind, iV a0.Shape, iV a0.Flags, iV a0.Age, .slice A1 n1 c1, .slice A2 n2 c2], boxC B5 32 [iV 0, iV 0, iV 0, iV 0, .slice none 0 0, .slice none 0 0], mapC ekI evB M11 p14, boxC B12 107 [.map (some M11)], kO3 A22 n22 c22 y21.Slots, kO3 A30 n30 c30 p30, boxC B24 32 [iV y21.Kind, iV y21.Shape, iV y21.Flags, iV y21.Age, .slice A22 n22 c22, .slice A30 n30 c30], kO3 A31 n31 c31 p31, boxC B25 25 [.slice A31 n31 c31], boxC B44 38 [iV p46, iV p47, .string p48]]) ?_ ?_
     ·refine run ?_
      obtain ⟨b49, hb49, h⟩ := bind_elim h
      refine G_segb 6 68 b49 ?_ ?_
      ·clear h
       refine G_case 62 rfl (fun g49 => ?_) (fun g49 => ?_)
       ·have h := cond_t g49 hb49
        refine run ?_
        refine G_rd (rd_look1 (a := x43.N) (z := false) 6 rfl map_rw rfl rfl Tryz.underlying107 (keyOk_int Tryz.underlying3) zero4) rfl (g_tt g49 rfl) rfl ?_
        refine run ?_
        obtain rfl := Option.some.inj h
        exact G_joined sA (cv_sel [0, 1, 2, 3, 4, 5, 6, 7, 8, 9, 10, 11, 12] 13 rfl rfl)
       ·have h := cond_f g49 hb49
        refine run ?_
        obtain rfl := Option.some.inj h
        exact G_joined sA (cv_sel [0, 1, 2, 3, 4, 5, 6, 7, 8, 9, 10, 11, 12] 13 rfl rfl)
      refine run ?_
      refine G_cond rfl (fun g50 => ?_) (fun g50 => ?_)
      ·replace h := cond_t g50 h
       refine G_region ?_
       refine gE (ev_build rfl (bld_38_)) ?_
       refine gO (op_store (us := [iV 0, iV 0, .string (⟨#[]⟩)]) (cs' := [iV 0, iV 0, .string (⟨#[]⟩)]) 0 rfl rfl rfl rfl size38 rfl rfl rfl) ?_
       rintro _ _ rfl
       refine G_norm ([boxC B44 38 [iV 0, iV 0, .string (⟨#[]⟩)], kS0 A29 n29 c29 x28.2, kS0 A1 n1 c1 a0.Slots, kS0 A2 n2 c2 a0.More, boxC B4 32 [iV a0.Kind, iV a0.Shape, iV a0.Flags, iV a0.Age, .slice A1 n1 c1, .slice A2 n2 c2], boxC B5 32 [iV 0, iV 0, iV 0, iV 0, .slice none 0 0, .slice none 0 0], mapC ekI evB M11 p14, boxC B12 107 [.map (some M11)], kO3 A22 n22 c22 y21.Slots, kO3 A30 n30 c30 p30, boxC B24 32 [iV y21.Kind, iV y21.Shape, iV y21.Flags, iV y21.Age, .slice A22 n22 c22, .slice A30 n30 c30], kO3 A31 n31 c31 p31, boxC B25 25 [.slice A31 n31 c31]]) rfl ?_
       refine run ?_
       exact ⟨_, _, ⟨0, 0, ⟨#[]⟩, h, rfl, rfl⟩, sA, cv_sel [1, 2, 3, 4, 5, 6, 7, 8, 9, 10, 11, 12, 0] 13 rfl rfl⟩
      ·replace h := cond_f g50 h
       refine run ?_
       exact ⟨_, _, ⟨x43.Kind, x43.N, x43.S, h, rfl, rfl⟩, sA, cv_sel [1, 2, 3, 4, 5, 6, 7, 8, 9, 10, 11, 12, 0] 13 rfl rfl⟩
     ·rintro _ _ ⟨p46, p47, p48, h, rfl, rfl⟩
      obtain ⟨x51, hx51, h⟩ := bind_elim h
      obtain ⟨lx51, ux51, hx51⟩ := getE_elim hx51
      obtain ⟨x52, hx52, h⟩ := bind_elim h
      obtain ⟨lx52, ux52, hx52⟩ := getE_elim hx52
      obtain ⟨x53, hx53, h⟩ := bind_elim h
      obtain ⟨lx53, ux53, hx53⟩ := getE_elim hx53
      refine G_sub (t := [(2, pV B4 0), (4, pV B5 0), (5, .slice none 0 0), (6, pV B12 0), (9, pV B24 0), (10, pV B25 0), (12, .slice A29 n29 c29), (13, pV B44 0)]) ?_ subT (cv_refl _)
      refine G_monoX (by kernel_rfl) 13 [] [1, 12] [70, 71, 72, 73, 74, 75, 76, 77, 78, 79, 80, 81, 82] [[], [0], [], [2], [3], [], [5], [6], [], [], [9], [10], [4, 7, 8, 11]] [aV (pV B24 5),
 aV (.slice A30 n30 c30),
 aV (.slice A29 n29 c29),
 aV (elemQ (.slice A29 n29 c29) ((0 : Int).toNat) 3 0),
 aV (.agg #[iV x51.Kind, iV x51.N, .string x51.S]),
 aV (.slice A29 n29 c29),
 aV (elemQ (.slice A29 n29 c29) ((1 : Int).toNat) 3 0),
 aV (.agg #[iV x52.Kind, iV x52.N, .string x52.S]),
 aV (.agg #[iV p46, iV p47, .string p48]),
 aV (.slice A29 n29 c29),
 aV (elemQ (.slice A29 n29 c29) ((3 : Int).toNat) 3 0),
 aV (.agg #[iV x53.Kind, iV x53.N, .string x53.S]),
 aX3 (fun (A55 : Option Addr) (n55 c55 : Nat) => .slice A55 n55 c55) (fun A55 n55 c55 => [kO3 A55 n55 c55 ([x51, x52, (⟨p46, p47, p48⟩ : DValue), x53] : List DValue)])] [] (cv_refl _) (qB_nil) (by kernel_rfl) rfl rfl ?_ ?_ ?_
      ·exact qs_nil
      ·refine steps_cons rfl ?_ ?_
       ·refine X_op (op_bslice (R := rDValue) (vss := [[iV x51.Kind, iV x51.N, .string x51.S], [iV x52.Kind, iV x52.N, .string x52.S], [iV p46, iV p47, .string p48], [iV x53.Kind, iV x53.N, .string x53.S]]) (xs := [x51, x52, (⟨p46, p47, p48⟩ : DValue), x53]) rfl (bsl_25_4 _ _ _ _ _ _ _ _ _ _ _ _) rfl rfl (fun _ _ hr => .cons rfl (.cons rfl (.cons rfl (.cons rfl All2.nil))))) rfl ?_
        rintro _ _ ⟨A54, n54, c54, rfl, rfl⟩
        exact cvp3 A54 n54 c54 (cv_refl _)
       refine steps_cons rfl ?_ ?_
       ·exact X_rd (rd_elemS (us := [iV x53.Kind, iV x53.N, .string x53.S]) 0 rfl els_sl rfl hx53 agg38 (fun _ _ _ h => by rw [show _ = _ from h]; rfl)) rfl (cvpV rfl (cv_refl _))
       refine steps_cons rfl ?_ ?_
       ·exact X_rd (rd_idx 0 rfl els_sl rfl rfl Tryz.underlying25 size38 lx53 ux53) rfl (cvpV rfl (cv_refl _))
       refine steps_cons rfl ?_ ?_
       ·exact X_ev (ev_move rfl) rfl (cvpV rfl (cv_refl _))
       refine steps_cons rfl ?_ ?_
       ·exact X_rd (rd_boxS (us := [iV p46, iV p47, .string p48]) 12 rfl rfl agg38 rfl) rfl (cvpV rfl (cv_refl _))
       refine steps_cons rfl ?_ ?_
       ·exact X_rd (rd_elemS (us := [iV x52.Kind, iV x52.N, .string x52.S]) 0 rfl els_sl rfl hx52 agg38 (fun _ _ _ h => by rw [show _ = _ from h]; rfl)) rfl (cvpV rfl (cv_refl _))
       refine steps_cons rfl ?_ ?_
       ·exact X_rd (rd_idx 0 rfl els_sl rfl rfl Tryz.underlying25 size38 lx52 ux52) rfl (cvpV rfl (cv_refl _))
       refine steps_cons rfl ?_ ?_
       ·exact X_ev (ev_move rfl) rfl (cvpV rfl (cv_refl _))
       refine steps_cons rfl ?_ ?_
       ·exact X_rd (rd_elemS (us := [iV x51.Kind, iV x51.N, .string x51.S]) 0 rfl els_sl rfl hx51 agg38 (fun _ _ _ h => by rw [show _ = _ from h]; rfl)) rfl (cvpV rfl (cv_refl _))
       refine steps_cons rfl ?_ ?_
       ·exact X_rd (rd_idx 0 rfl els_sl rfl rfl Tryz.underlying25 size38 lx51 ux51) rfl (cvpV rfl (cv_refl _))
       refine steps_cons rfl ?_ ?_
       ·exact X_ev (ev_move rfl) rfl (cvpV rfl (cv_refl _))
       refine steps_cons rfl ?_ ?_
       ·exact X_rd (rd_box1 9 rfl rfl one25 rfl) rfl (cvpV rfl (cv_refl _))
       refine steps_cons rfl ?_ ?_
       ·exact X_ev (ev_fa rfl fa_32_5) rfl (cvpV rfl (cv_refl _))
       exact steps_nil
      ·intro A55 n55 c55
       refine N_sub (t := [(71, .slice A30 n30 c30), (82, .slice A55 n55 c55), (2, pV B4 0), (4, pV B5 0), (5, .slice none 0 0), (6, pV B12 0), (9, pV B24 0), (10, pV B25 0), (12, .slice A29 n29 c29), (13, pV B44 0)]) (L' := [kO3 A55 n55 c55 ([x51, x52, (⟨p46, p47, p48⟩ : DValue), x53] : List DValue), kS0 A29 n29 c29 x28.2, kS0 A1 n1 c1 a0.Slots, kS0 A2 n2 c2 a0.More, boxC B4 32 [iV a0.Kind, iV a0.Shape, iV a0.Flags, iV a0.Age, .slice A1 n1 c1, .slice A2 n2 c2], boxC B5 32 [iV 0, iV 0, iV 0, iV 0, .slice none 0 0, .slice none 0 0], mapC ekI evB M11 p14, boxC B12 107 [.map (some M11)], kO3 A22 n22 c22 y21.Slots, kO3 A30 n30 c30 p30, boxC B24 32 [iV y21.Kind, iV y21.Shape, iV y21.Flags, iV y21.Age, .slice A22 n22 c22, .slice A30 n30 c30], kO3 A31 n31 c31 p31, boxC B25 25 [.slice A31 n31 c31], boxC B44 38 [iV p46, iV p47, .string p48]]) ?_ subT (cv_refl _)
       obtain ⟨q56, h⟩ := req_elim h
       refine N_opd 13 rfl (by kernel_rfl) (op_append 9 0 rfl rfl els_own rfl rfl Tryz.underlying25 zb38 rfl rfl q56) rfl rfl rfl ?_
       rintro _ _ ⟨A57, n57, c57, rfl, rfl⟩
       refine N_ev 14 rfl (by kernel_rfl) (ev_fa rfl fa_32_5) rfl rfl rfl ?_
       refine N_opn 15 rfl (by kernel_rfl) (op_store (us := [.slice A57 n57 c57]) (cs' := [iV y21.Kind, iV y21.Shape, iV y21.Flags, iV y21.Age, .slice A22 n22 c22, .slice A57 n57 c57]) 10 rfl rfl rfl rfl size25 rfl rfl rfl) rfl rfl ?_
       rintro _ _ rfl
       refine N_done (by kernel_rfl) ?_
       refine bk_n ?_
       obtain ⟨rfl, rfl⟩ := Prod.mk.inj (Option.some.inj h)
       exact RK_n ((cv_sel [2, 3, 4, 5, 6, 7, 8, 9, 10, 11, 12] 14 rfl rfl).trans (cv_pack1 ((A57, n57, c57), (A31, n31, c31)) rfl))
   ·rintro ⟨⟨A30, n30, c30⟩, ⟨A31, n31, c31⟩⟩ h
    refine K3_norm ([kS0 A1 n1 c1 a0.Slots, kS0 A2 n2 c2 a0.More, boxC B4 32 [iV a0.Kind, iV a0.Shape, iV a0.Flags, iV a0.Age, .slice A1 n1 c1, .slice A2 n2 c2], boxC B5 32 [iV 0, iV 0, iV 0, iV 0, .slice none 0 0, .slice none 0 0], mapC ekI evB M11 p14, boxC B12 107 [.map (some M11)], kO3 A22 n22 c22 y21.Slots, kO3 A30 n30 c30 y32.2.1, boxC B24 32 [iV y21.Kind, iV y21.Shape, iV y21.Flags, iV y21.Age, .slice A22 n22 c22, .slice A30 n30 c30], kO3 A31 n31 c31 y32.2.2, boxC B25 25 [.slice A31 n31 c31]]) rfl ?_
    refine run ?_
    refine G_seq ?_
    refine G_drawn (by kernel_rfl) ([kS0 A1 n1 c1 a0.Slots, kS0 A2 n2 c2 a0.More, boxC B4 32 [iV a0.Kind, iV a0.Shape, iV a0.Flags, iV a0.Age, .slice A1 n1 c1, .slice A2 n2 c2], mapC ekI evB M11 p14, boxC B12 107 [.map (some M11)], kO3 A22 n22 c22 y21.Slots, kO3 A30 n30 c30 y32.2.1, boxC B24 32 [iV y21.Kind, iV y21.Shape, iV y21.Flags, iV y21.Age, .slice A22 n22 c22, .slice A30 n30 c30], kO3 A31 n31 c31 y32.2.2, boxC B25 25 [.slice A31 n31 c31]]) (cv_sel [0, 1, 2, 4, 5, 6, 7, 8, 9, 10] 11 rfl rfl) ?_
    refine T3_rd 0 rfl (by kernel_rfl) (rd_boxS (us := [iV y21.Kind, iV y21.Shape, iV y21.Flags, iV y21.Age, .slice A22 n22 c22, .slice A30 n30 c30]) 7 rfl rfl agg32 rfl) rfl rfl ?_
    refine T3_rd 1 rfl (by kernel_rfl) (rd_box1 9 rfl rfl one25 rfl) rfl rfl ?_
    refine T3_opn 2 rfl (by kernel_rfl) (op_store (us := [iV y21.Kind, iV y21.Shape, iV y21.Flags, iV y21.Age, .slice A22 n22 c22, .slice A30 n30 c30]) (cs' := [iV y21.Kind, iV y21.Shape, iV y21.Flags, iV y21.Age, .slice A22 n22 c22, .slice A30 n30 c30]) 3 rfl rfl rfl rfl size32 rfl rfl rfl) rfl rfl ?_
    rintro _ _ rfl
    refine ⟨[kS0 A1 n1 c1 a0.Slots, kS0 A2 n2 c2 a0.More, boxC B4 32 [iV a0.Kind, iV a0.Shape, iV a0.Flags, iV a0.Age, .slice A1 n1 c1, .slice A2 n2 c2], mapC ekI evB M11 p14, boxC B12 107 [.map (some M11)], kO3 A22 n22 c22 y21.Slots, kO3 A30 n30 c30 y32.2.1, boxC B24 32 [iV y21.Kind, iV y21.Shape, iV y21.Flags, iV y21.Age, .slice A22 n22 c22, .slice A30 n30 c30], kO3 A31 n31 c31 y32.2.2, boxC B25 25 [.slice A31 n31 c31]], cv_sel [0, 1, 2, 4, 5, 6, 7, 8, 9, 10] 11 rfl rfl, cv_refl _, ?_⟩
    refine T3_norm ([kS0 A1 n1 c1 a0.Slots, kS0 A2 n2 c2 a0.More, boxC B4 32 [iV a0.Kind, iV a0.Shape, iV a0.Flags, iV a0.Age, .slice A1 n1 c1, .slice A2 n2 c2], boxC B5 32 [iV y21.Kind, iV y21.Shape, iV y21.Flags, iV y21.Age, .slice A22 n22 c22, .slice A30 n30 c30], mapC ekI evB M11 p14, boxC B12 107 [.map (some M11)], kO3 A22 n22 c22 y21.Slots, kO3 A30 n30 c30 y32.2.1, boxC B24 32 [iV y21.Kind, iV y21.Shape, iV y21.Flags, iV y21.Age, .slice A22 n22 c22, .slice A30 n30 c30], kO3 A31 n31 c31 y32.2.2, boxC B25 25 [.slice A31 n31 c31]]) rfl ?_
    refine T3_ev 3 rfl (by kernel_rfl) (ev_assign rfl) rfl rfl ?_
    refine T3_done (by kernel_rfl) ?_
    refine run ?_
    obtain rfl := Option.some.inj h
    exact endGl (rs := [.cell 4 32, .tmp 5]) (vs := [.agg #[iV y21.Kind, iV y21.Shape, iV y21.Flags, iV y21.Age, .slice A22 n22 c22, .slice A30 n30 c30], .slice A31 n31 c31]) rfl (.cons (rv_boxS 3 rfl rfl agg32) (.cons (rv_tmp rfl) .nil)) rfl (cv_sel [6, 7, 9] 11 rfl rfl) ⟨_, _, _, _, _, _, _, _, _, rfl, rfl⟩
   ·rintro ⟨⟨A30, n30, c30⟩, ⟨A31, n31, c31⟩⟩ h
    exact none_some h
   ·rintro i ⟨⟨A30, n30, c30⟩, ⟨A31, n31, c31⟩⟩ h
    exact none_some h
theorem finreg_Clean_free {r : (DCell × (List DValue))} : ∀ v post, ((fun (u : Value) (post : List Chunk) => ∃ A0 n0 c0 A1 n1 c1 A2 n2 c2, u = .tuple #[.agg #[iV r.1.Kind, iV r.1.Shape, iV r.1.Flags, iV r.1.Age, .slice A0 n0 c0, .slice A1 n1 c1], .slice A2 n2 c2] ∧ post = [kO3 A0 n0 c0 r.1.Slots, kO3 A1 n1 c1 r.1.More, kO3 A2 n2 c2 r.2])) v post → ∀ c ∈ post, Free c := by
 rintro _ _ ⟨_, _, _, _, _, _, _, _, _, rfl, rfl⟩; exact mem_cons free_own (mem_cons free_own (mem_cons free_own (mem_nil)))
def major_moved_j3 (N : Nat) (p4 : (List DValue)) : Option (List DValue) :=
 some p4
def major_moved_j12 (N : Nat) (kb5 : (List DValue) → Int → Option (List DValue)) (a0 : (List DValue)) (p7 : Int) (a1 : (List (Int × Int))) (p6 : (List DValue)) (x10 : DValue) (p13 : Int) : Option (List DValue) :=
 req (fitsL (p6.length + ([(⟨x10.Kind, p13, x10.S⟩ : DValue)] : List DValue).length)) (req (in64 (p7 + 1)) (kb5 (p6 ++ ([(⟨x10.Kind, p13, x10.S⟩ : DValue)] : List DValue)) (p7 + 1)))
def major_moved_l5 (N : Nat) (a0 : (List DValue)) (a1 : (List (Int × Int))) : Nat → (List DValue) → Int → Option (List DValue)
 | 0, _, _ => none
 | m5 + 1, p6, p7 => bif decide (p7 < (a0.length : Int)) then ((getE a0 p7).bind fun x10 => (bif (lk a1 x10.N).isSome then ((bif decide (x10.Kind = 7) then (some true) else (some (decide (x10.Kind = 9)))).bind fun b15 => some b15) else (some false)).bind fun b14 => bif b14 then (major_moved_j12 N (major_moved_l5 N a0 a1 m5) a0 p7 a1 p6 x10 ((lk a1 x10.N).getD 0)) else (major_moved_j12 N (major_moved_l5 N a0 a1 m5) a0 p7 a1 p6 x10 x10.N)) else (major_moved_j3 N p6)
theorem major_moved_l5_s {N m5 : Nat} {a0 : (List DValue)} {a1 : (List (Int × Int))} {p6 : (List DValue)} {p7 : Int} : major_moved_l5 N a0 a1 (m5 + 1) p6 p7 = bif decide (p7 < (a0.length : Int)) then ((getE a0 p7).bind fun x10 => (bif (lk a1 x10.N).isSome then ((bif decide (x10.Kind = 7) then (some true) else (some (decide (x10.Kind = 9)))).bind fun b15 => some b15) else (some false)).bind fun b14 => bif b14 then (major_moved_j12 N (major_moved_l5 N a0 a1 m5) a0 p7 a1 p6 x10 ((lk a1 x10.N).getD 0)) else (major_moved_j12 N (major_moved_l5 N a0 a1 m5) a0 p7 a1 p6 x10 x10.N)) else (major_moved_j3 N p6) := rfl
def major_moved_O (N : Nat) (a0 : (List DValue)) (a1 : (List (Int × Int))) : Option (List DValue) :=
 major_moved_l5 N a0 a1 N [] 0
theorem major_moved_ok {N : Nat} {a0 : (List DValue)} {a1 : (List (Int × Int))} {r : (List DValue)} (h : major_moved_O N a0 a1 = some r) {A1 : Option Addr} {n1 c1 : Nat} {M2 : Nat} : Okc Tryz.prog 82 [.slice A1 n1 c1, .map (some M2)] ([kS0 A1 n1 c1 a0, romC ekI evI M2 a1]) (fun (u : Value) (post : List Chunk) => ∃ A0 n0 c0, u = .slice A0 n0 c0 ∧ post = [kO3 A0 n0 c0 r]) := by
 refine ok_E Tryz.func82 rfl rfl ?_
 simp only [envOf]
 refine run ?_
 refine G_joinF (fun s L => ∃ (p4 : (List DValue)) (A4 : Option Addr) (n4 c4 : Nat), major_moved_j3 N p4 = some r ∧ s = [(4, .slice none 0 0), (5, .slice A4 n4 c4)] ∧ L = [kO3 A4 n4 c4 p4]) ?_ ?_
 ·refine run ?_
  refine gR (rd_len 0 rfl els_sl rfl Tryz.underlying25) ?_
  refine run ?_
  refine G_loopF (fun m s L => ∃ (p6 : (List DValue)) (p7 : Int) (A6 : Option Addr) (n6 c6 : Nat), major_moved_l5 N a0 a1 m p6 p7 = some r ∧ s = [(1, .map (some M2)), (4, .slice none 0 0), (5, .slice A6 n6 c6), (10, .slice A1 n1 c1), (11, iV (a0.length : Int)), (12, iV p7)] ∧ L = [romC ekI evI M2 a1, kO3 A6 n6 c6 p6, kS0 A1 n1 c1 a0]) N _ _ ⟨[], 0, none, 0, 0, h, rfl, rfl⟩ sA ((cv_nil rDValue 38 _).trans (cv_sel [2, 0, 1] 3 rfl rfl)) ?_
  rintro (_ | m5) _ _ ⟨p6, p7, A6, n6, c6, h, rfl, rfl⟩
  ·exact none_some h
  rw [major_moved_l5_s] at h
  refine run ?_
  refine G_seq ?_
  refine G_cond rfl (fun g9 => ?_) (fun g9 => ?_)
  ·replace h := cond_t g9 h
   refine run ?_
   refine G_seq ?_
   refine run ?_
   obtain ⟨x10, hx10, h⟩ := bind_elim h
   obtain ⟨lx10, ux10, hx10⟩ := getE_elim hx10
   refine gR (rd_idx 2 rfl els_sl rfl rfl Tryz.underlying25 size38 lx10 ux10) ?_
   refine gR (rd_elemS (us := [iV x10.Kind, iV x10.N, .string x10.S]) 2 rfl els_sl rfl hx10 agg38 (fun _ _ _ h => by rw [show _ = _ from h]; rfl)) ?_
   refine gD (op_alloc zero38 rfl) ?_
   rintro _ _ ⟨B11, rfl, rfl⟩
   refine gO (op_store (us := [iV x10.Kind, iV x10.N, .string x10.S]) (cs' := [iV x10.Kind, iV x10.N, .string x10.S]) 0 rfl rfl rfl rfl size38 rfl rfl rfl) ?_
   rintro _ _ rfl
   refine run ?_
   refine G_joinF (fun s L => ∃ (p13 : Int), major_moved_j12 N (major_moved_l5 N a0 a1 m5) a0 p7 a1 p6 x10 p13 = some r ∧ s = [(1, .map (some M2)), (4, .slice none 0 0), (5, .slice A6 n6 c6), (7, pV B11 0), (10, .slice A1 n1 c1), (11, iV (a0.length : Int)), (12, iV p7)] ∧ L = [romC ekI evI M2 a1, kO3 A6 n6 c6 p6, kS0 A1 n1 c1 a0, boxC B11 38 [iV x10.Kind, iV p13, .string x10.S]]) ?_ ?_
   ·refine run ?_
    refine gR (rd_look2 (a := x10.N) (z := 0) 1 rfl map_ro rfl rfl Tryz.underlying88 (keyOk_int Tryz.underlying3) zero3) ?_
    refine run ?_
    obtain ⟨b14, hb14, h⟩ := bind_elim h
    refine G_segb 9 33 b14 ?_ ?_
    ·clear h
     refine G_case 24 rfl (fun g14 => ?_) (fun g14 => ?_)
     ·have h := cond_t g14 hb14
      refine run ?_
      obtain ⟨b15, hb15, h⟩ := bind_elim h
      refine G_segb 4 32 b15 ?_ ?_
      ·clear h
       refine G_case 28 rfl (fun g15 => ?_) (fun g15 => ?_)
       ·have h := cond_t g15 hb15
        refine run ?_
        obtain rfl := Option.some.inj h
        exact G_joined sA (cv_sel [0, 1, 2, 3] 4 rfl rfl)
       ·have h := cond_f g15 hb15
        refine run ?_
        obtain rfl := Option.some.inj h
        exact G_joined sA (cv_sel [0, 1, 2, 3] 4 rfl rfl)
      refine run ?_
      obtain rfl := Option.some.inj h
      exact G_joined sA (cv_sel [0, 1, 2, 3] 4 rfl rfl)
     ·have h := cond_f g14 hb14
      refine run ?_
      obtain rfl := Option.some.inj h
      exact G_joined sA (cv_sel [0, 1, 2, 3] 4 rfl rfl)
    refine run ?_
    refine G_cond rfl (fun g16 => ?_) (fun g16 => ?_)
    ·replace h := cond_t g16 h
     refine run ?_
     refine gO (op_store (us := [iV ((lk a1 x10.N).getD 0)]) (cs' := [iV x10.Kind, iV ((lk a1 x10.N).getD 0), .string x10.S]) 0 rfl rfl rfl rfl size3 rfl rfl rfl) ?_
     rintro _ _ rfl
     refine run ?_
     exact ⟨_, _, ⟨(lk a1 x10.N).getD 0, h, rfl, rfl⟩, sA, cv_sel [1, 2, 3, 0] 4 rfl rfl⟩
    ·replace h := cond_f g16 h
     refine run ?_
     exact ⟨_, _, ⟨x10.N, h, rfl, rfl⟩, sA, cv_sel [1, 2, 3, 0] 4 rfl rfl⟩
   ·rintro _ _ ⟨p13, h, rfl, rfl⟩
    refine run ?_
    refine gR (rd_boxS (us := [iV x10.Kind, iV p13, .string x10.S]) 3 rfl rfl agg38 rfl) ?_
    refine gD (op_bslice (R := rDValue) (vss := [[iV x10.Kind, iV p13, .string x10.S]]) (xs := [(⟨x10.Kind, p13, x10.S⟩ : DValue)]) rfl (bsl_25_1 _ _ _) rfl rfl (fun _ _ hr => .cons rfl All2.nil)) ?_
    rintro _ _ ⟨A17, n17, c17, rfl, rfl⟩
    obtain ⟨q18, h⟩ := req_elim h
    refine gD (op_append 2 0 rfl rfl els_own rfl rfl Tryz.underlying25 zb38 rfl rfl q18) ?_
    rintro _ _ ⟨A19, n19, c19, rfl, rfl⟩
    refine G_norm ([kO3 A17 n17 c17 ([(⟨x10.Kind, p13, x10.S⟩ : DValue)] : List DValue), romC ekI evI M2 a1, kO3 A19 n19 c19 (p6 ++ ([(⟨x10.Kind, p13, x10.S⟩ : DValue)] : List DValue)), kS0 A1 n1 c1 a0, boxC B11 38 [iV x10.Kind, iV p13, .string x10.S]]) rfl ?_
    refine run ?_
    obtain ⟨q20, h⟩ := req_elim h
    refine gE (ev_add rfl rfl q20.1 q20.2) ?_
    refine run ?_
    exact ⟨m5, _, _, Nat.lt_succ_self _, ⟨p6 ++ ([(⟨x10.Kind, p13, x10.S⟩ : DValue)] : List DValue), p7 + 1, A19, n19, c19, h, rfl, rfl⟩, sA, cv_sel [1, 2, 3] 5 rfl rfl⟩
  ·replace h := cond_f g9 h
   refine run ?_
   exact ⟨_, _, ⟨p6, A6, n6, c6, h, rfl, rfl⟩, sA, cv_sel [1] 3 rfl rfl⟩
 ·rintro _ _ ⟨p4, A4, n4, c4, h, rfl, rfl⟩
  refine run ?_
  obtain rfl := Option.some.inj h
  exact endG1 rfl rfl (cv_sel [0] 1 rfl rfl) ⟨_, _, _, rfl, rfl⟩
theorem major_moved_free {r : (List DValue)} : ∀ v post, ((fun (u : Value) (post : List Chunk) => ∃ A0 n0 c0, u = .slice A0 n0 c0 ∧ post = [kO3 A0 n0 c0 r])) v post → ∀ c ∈ post, Free c := by
 rintro _ _ ⟨_, _, _, rfl, rfl⟩; exact mem_cons free_own (mem_nil)
def major_Collect_j37 (N : Nat) (a1 : (List DValue)) (a0 : DMemory) (p28 : (List DCell)) (y13 : ((List Int))) (y22 : (Option Exit × (List (Int × Int)))) (p38 : (List DValue)) (p39 : Int) (p40 : Int) (p41 : Int) (p42 : Int) (p43 : (List DValue)) (p44 : (List DValue)) : Option (Option Exit × (List DCell) × (List DValue)) :=
 (major_moved_O N p43 y22.2).bind fun y56 => (major_moved_O N p44 y22.2).bind fun y59 => req (fitsL (p28.length + ([(⟨p39, p40, p41, p42, y56, y59⟩ : DCell)] : List DCell).length)) (some (none, (p28 ++ ([(⟨p39, p40, p41, p42, y56, y59⟩ : DCell)] : List DCell), p38)))
def major_Collect_b27 (N : Nat) (a1 : (List DValue)) (a0 : DMemory) (y13 : ((List Int))) (y22 : (Option Exit × (List (Int × Int)))) (x27 : Int × Int) : ((List DCell) × (List DValue)) → Option (Option Exit × ((List DCell) × (List DValue)))
 |(p28, p29) => (reach_At_O N a0 x27.2).bind fun y33 => bif decide (y33.Kind = 8) then ((weak_Clean_O N y33 y13).bind fun y46 => major_Collect_j37 N a1 a0 p28 y13 y22 p29 y46.Kind y46.Shape y46.Flags y46.Age y46.Slots y46.More) else (bif decide (y33.Kind = 10) then ((finreg_Clean_O N y33 y13).bind fun y50 => req (fitsL (p29.length + y50.2.length)) (major_Collect_j37 N a1 a0 p28 y13 y22 (p29 ++ y50.2) y50.1.Kind y50.1.Shape y50.1.Flags y50.1.Age y50.1.Slots y50.1.More)) else (major_Collect_j37 N a1 a0 p28 y13 y22 p29 y33.Kind y33.Shape y33.Flags y33.Age y33.Slots y33.More))
def major_Collect_b20 (N : Nat) (a1 : (List DValue)) (a0 : DMemory) (y13 : ((List Int))) (x20 : Int × Int) : ((List (Int × Int))) → Option (Option Exit × (List (Int × Int)))
 | p21 => req (in64 (2 * x20.1)) (req (in64 ((2 * x20.1) + 2)) (some (none, upL p21 x20.2 ((2 * x20.1) + 2))))
def major_Collect_O (N : Nat) (a0 : DMemory) (a1 : (List DValue)) : Option (DMemory × (List DValue) × (List DValue) × Int) :=
 (major_check_O N a0 a1).bind fun y7 => bif !decide (y7 = 0) then (some ((⟨[], []⟩ : DMemory), [], [], y7)) else ((reach_Live_O N a0 a1).bind fun y13 => (major_order_O N y13).bind fun y18 => (major_order_c1_O N y13 (liftR (fun x st => major_Collect_b20 N a1 a0 y13 x st)) (none, ([] : (List (Int × Int))))).bind fun y22 => caseX y22.1 ((major_order_O N y13).bind fun y25 => (major_order_c1_O N y13 (liftR (fun x st => major_Collect_b27 N a1 a0 y13 y22 x st)) (none, ([], []))).bind fun y30 => caseX y30.1 ((major_moved_O N a1 y22.2).bind fun y65 => (major_moved_O N y30.2.2 y22.2).bind fun y68 => some ((⟨[], y30.2.1⟩ : DMemory), y65, y68, 0)) none (fun _ => none)) none (fun _ => none))
set_option maxHeartbeats 4000000 in
theorem major_Collect_ok {N : Nat} {a0 : DMemory} {a1 : (List DValue)} {r : (DMemory × (List DValue) × (List DValue) × Int)} (h : major_Collect_O N a0 a1 = some r) {A1 : Option Addr} {n1 c1 : Nat} {A2 : Option Addr} {n2 c2 : Nat} {A3 : Option Addr} {n3 c3 : Nat} : Okc Tryz.prog 31 [.agg #[.slice A1 n1 c1, .slice A2 n2 c2], .slice A3 n3 c3] ([kS1 A1 n1 c1 a0.Young, kS1 A2 n2 c2 a0.Old, kS0 A3 n3 c3 a1]) (fun (u : Value) (post : List Chunk) => ∃ A0 n0 c0 A1 n1 c1 A2 n2 c2 A3 n3 c3, u = .tuple #[.agg #[.slice A0 n0 c0, .slice A1 n1 c1], .slice A2 n2 c2, .slice A3 n3 c3, iV r.2.2.2] ∧ post = [kO4 A0 n0 c0 r.1.Young, kO4 A1 n1 c1 r.1.Old, kO3 A2 n2 c2 r.2.1, kO3 A3 n3 c3 r.2.2.1]) := by
 refine ok_E Tryz.func31 rfl rfl ?_
 simp only [envOf]
 refine run ?_
 refine gD (op_box rfl rfl) ?_
 rintro _ _ ⟨B4, rfl, rfl⟩
 refine gD (op_alloc zero24 rfl) ?_
 rintro _ _ ⟨B5, rfl, rfl⟩
 refine run ?_
 refine gD (op_alloc zero25 rfl) ?_
 rintro _ _ ⟨B6, rfl, rfl⟩
 refine run ?_
 refine G_seq ?_
 refine run ?_
 refine gR (rd_boxS (us := [.slice A1 n1 c1, .slice A2 n2 c2]) 2 rfl rfl agg24 rfl) ?_
 refine run ?_
 obtain ⟨y7, hy7, h⟩ := bind_elim h
 refine gD (op_callR (major_check_ok hy7) call78 rfl (mem_cons (lent_ro (i := 3) rfl rfl) (mem_cons (lent_ro (i := 4) rfl rfl) (mem_cons (lent_ro (i := 5) rfl rfl) mem_nil))) major_check_free) ?_
 rintro _ _ ⟨_, ⟨rfl, rfl⟩, rfl⟩
 refine run ?_
 refine G_cond rfl (fun g8 => ?_) (fun g8 => ?_)
 ·replace h := cond_t g8 h
  refine run ?_
  refine gE (ev_build rfl (bld_24_)) ?_
  refine run ?_
  refine gO (op_store (us := [.slice none 0 0, .slice none 0 0]) (cs' := [.slice none 0 0, .slice none 0 0]) 1 rfl rfl rfl rfl size24 rfl rfl rfl) ?_
  rintro _ _ rfl
  refine run ?_
  refine gO (op_store (us := [.slice none 0 0]) (cs' := [.slice none 0 0]) 0 rfl rfl rfl rfl size25 rfl rfl rfl) ?_
  rintro _ _ rfl
  refine run ?_
  obtain rfl := Option.some.inj h
  exact endGl (rs := [.cell 4 24, .tmp 5, .cell 6 25, .tmp 7]) (vs := [.agg #[.slice none 0 0, .slice none 0 0], .slice none 0 0, .slice none 0 0, iV y7]) rfl (.cons (rv_boxS 1 rfl rfl agg24) (.cons (rv_tmp rfl) (.cons (rv_box1 0 rfl rfl one25) (.cons (rv_tmp rfl) .nil)))) rfl ((cv_nil rDCell 32 _).trans ((cv_nil rDCell 32 _).trans ((cv_nil rDValue 38 _).trans ((cv_nil rDValue 38 _).trans (cv_sel [3, 2, 1, 0] 10 rfl rfl))))) ⟨_, _, _, _, _, _, _, _, _, _, _, _, rfl, rfl⟩
 ·replace h := cond_f g8 h
  refine run ?_
  refine gR (rd_boxS (us := [.slice A1 n1 c1, .slice A2 n2 c2]) 2 rfl rfl agg24 rfl) ?_
  refine run ?_
  obtain ⟨y13, hy13, h⟩ := bind_elim h
  refine gD (op_callR (reach_Live_ok hy13) call23 rfl (mem_cons (lent_ro (i := 3) rfl rfl) (mem_cons (lent_ro (i := 4) rfl rfl) (mem_cons (lent_ro (i := 5) rfl rfl) mem_nil))) reach_Live_free) ?_
  rintro _ _ ⟨_, ⟨A14, n14, c14, rfl, rfl⟩, rfl⟩
  refine gD (op_alloc zero35 rfl) ?_
  rintro _ _ ⟨B15, rfl, rfl⟩
  refine gO (op_store (us := [.slice A14 n14 c14]) (cs' := [.slice A14 n14 c14]) 0 rfl rfl rfl rfl size35 rfl rfl rfl) ?_
  rintro _ _ rfl
  refine G_norm ([boxC B15 35 [.slice A14 n14 c14], kO2 A14 n14 c14 y13, boxC B6 25 [.slice none 0 0], boxC B5 24 [.slice none 0 0, .slice none 0 0], boxC B4 24 [.slice A1 n1 c1, .slice A2 n2 c2], kS1 A1 n1 c1 a0.Young, kS1 A2 n2 c2 a0.Old, kS0 A3 n3 c3 a1]) rfl ?_
  refine run ?_
  refine gD (op_makeMap (ek := ekI) (ev := evI)) ?_
  rintro _ _ ⟨M16, rfl, rfl⟩
  refine gD (op_alloc zero88 rfl) ?_
  rintro _ _ ⟨B17, rfl, rfl⟩
  refine gO (op_store (us := [.map (some M16)]) (cs' := [.map (some M16)]) 0 rfl rfl rfl rfl size88 rfl rfl rfl) ?_
  rintro _ _ rfl
  refine run ?_
  refine G_seq ?_
  refine run ?_
  obtain ⟨y18, hy18, h⟩ := bind_elim h
  refine gD (op_callR (major_order_ok hy18) call79 rfl (mem_cons (lent_own (i := 3) rfl) mem_nil) major_order_free) ?_
  rintro _ _ ⟨_, ⟨B19, rfl, rfl⟩, rfl⟩
  refine G_nil ?_
  refine nx_n ?_
  refine G_sub ?_ sub_refl (cv_frzbox 0 rfl)
  refine G_sub ?_ sub_refl (cv_frz 4 rfl)
  refine Wq_norm ([rboxC B19 35 [.slice A14 n14 c14], boxC B17 88 [.map (some M16)], mapC ekI evI M16 ([] : (List (Int × Int))), boxC B15 35 [.slice A14 n14 c14], kS5 A14 n14 c14 y13, boxC B6 25 [.slice none 0 0], boxC B5 24 [.slice none 0 0, .slice none 0 0], boxC B4 24 [.slice A1 n1 c1, .slice A2 n2 c2], kS1 A1 n1 c1 a0.Young, kS1 A2 n2 c2 a0.Old, kS0 A3 n3 c3 a1]) rfl ?_
  obtain ⟨y22, hy22, h⟩ := bind_elim h
  refine G_rangeX (en := (fun x => [iV x.1, iV x.2])) (fun x st => major_Collect_b20 N a1 a0 y13 x st) (fun (st : (List (Int × Int))) (mz : Unit) => [kS0 A3 n3 c3 a1, kS1 A1 n1 c1 a0.Young, kS1 A2 n2 c2 a0.Old, boxC B4 24 [.slice A1 n1 c1, .slice A2 n2 c2], boxC B5 24 [.slice none 0 0, .slice none 0 0], boxC B6 25 [.slice none 0 0], kS5 A14 n14 c14 y13, boxC B15 35 [.slice A14 n14 c14], mapC ekI evI M16 st, boxC B17 88 [.map (some M16)]]) [rboxC B19 35 [.slice A14 n14 c14], kS5 A14 n14 c14 y13] (([] : (List (Int × Int)))) (()) rfl rfl call131 rfl (fun _ => rfl) (fun l G hY => (major_order_c1_ok hy22 hY).mono fun _ _ hh => hh.2) (cv_take [0, 4] [] [10, 8, 9, 7, 6, 5, 4, 3, 2, 1] 11 rfl) h ?_ ?_ ?_ ?_
  ·rintro l x20 p21 je sr20 _ h
   replace h : major_Collect_b20 N a1 a0 y13 x20 p21 = some (je, sr20) := h
   simp only [envR, List.zip_cons_cons, List.zip_nil_left, List.zip_nil_right, List.reverse_cons, List.reverse_nil, List.nil_append, List.cons_append]
   refine run ?_
   refine gR (rd_box1 9 rfl rfl one88 rfl) ?_
   refine run ?_
   obtain ⟨q23, h⟩ := req_elim h
   refine gE (ev_mul rfl rfl q23.1 q23.2) ?_
   obtain ⟨q24, h⟩ := req_elim h
   refine gE (ev_add rfl rfl q24.1 q24.2) ?_
   refine gO (op_mapUpdate (a := x20.2) (b := (2 * x20.1) + 2) 8 rfl rfl rfl rfl Tryz.underlying88 (keyOk_int Tryz.underlying3)) ?_
   rintro _ _ rfl
   refine run ?_
   obtain ⟨rfl, rfl⟩ := Prod.mk.inj (Option.some.inj h)
   exact RK_n ((cv_sel [0, 1, 2, 3, 4, 5, 6, 7, 8, 9] 10 rfl rfl).trans (cv_pack1 () rfl))
  ·rintro _ h
   refine K3_norm ([kS0 A3 n3 c3 a1, kS1 A1 n1 c1 a0.Young, kS1 A2 n2 c2 a0.Old, boxC B4 24 [.slice A1 n1 c1, .slice A2 n2 c2], boxC B5 24 [.slice none 0 0, .slice none 0 0], boxC B6 25 [.slice none 0 0], kS5 A14 n14 c14 y13, boxC B15 35 [.slice A14 n14 c14], mapC ekI evI M16 y22.2, boxC B17 88 [.map (some M16)]]) rfl ?_
   refine run ?_
   refine G_seq ?_
   refine run ?_
   obtain ⟨y25, hy25, h⟩ := bind_elim h
   refine gD (op_callR (major_order_ok hy25) call79 rfl (mem_cons (lent_ro (i := 6) rfl rfl) mem_nil) major_order_free) ?_
   rintro _ _ ⟨_, ⟨B26, rfl, rfl⟩, rfl⟩
   refine G_nil ?_
   refine nx_n ?_
   refine G_sub ?_ sub_refl (cv_frzbox 0 rfl)
   obtain ⟨y30, hy30, h⟩ := bind_elim h
   refine G_rangeX (en := (fun x => [iV x.1, iV x.2])) (fun x st => major_Collect_b27 N a1 a0 y13 y22 x st) (fun (st : (List DCell) × (List DValue)) (mz : ((Option Addr × Nat × Nat) × (Option Addr × Nat × Nat))) => [kS0 A3 n3 c3 a1, kS1 A1 n1 c1 a0.Young, kS1 A2 n2 c2 a0.Old, boxC B4 24 [.slice A1 n1 c1, .slice A2 n2 c2], ownC rDCell 32 (.slice mz.1.1 mz.1.2.1 mz.1.2.2) st.1, boxC B5 24 [.slice none 0 0, .slice mz.1.1 mz.1.2.1 mz.1.2.2], ownC rDValue 38 (.slice mz.2.1 mz.2.2.1 mz.2.2.2) st.2, boxC B6 25 [.slice mz.2.1 mz.2.2.1 mz.2.2.2], kS5 A14 n14 c14 y13, boxC B15 35 [.slice A14 n14 c14], mapC ekI evI M16 y22.2, boxC B17 88 [.map (some M16)]]) [rboxC B26 35 [.slice A14 n14 c14], kS5 A14 n14 c14 y13] (([], [])) (((none, 0, 0), (none, 0, 0))) rfl rfl call131 rfl (fun _ => rfl) (fun l G hY => (major_order_c1_ok hy30 hY).mono fun _ _ hh => hh.2) ((cv_nil rDCell 32 _).trans ((cv_nil rDValue 38 _).trans (cv_take [2, 9] [] [3, 4, 5, 6, 1, 7, 0, 8, 9, 10, 11, 12] 13 rfl))) h ?_ ?_ ?_ ?_
   ·rintro l x27 ⟨p28, p29⟩ je sr27 ⟨⟨A28, n28, c28⟩, ⟨A29, n29, c29⟩⟩ h
    replace h : major_Collect_b27 N a1 a0 y13 y22 x27 (p28, p29) = some (je, sr27) := h
    simp only [envR, List.zip_cons_cons, List.zip_nil_left, List.zip_nil_right, List.reverse_cons, List.reverse_nil, List.nil_append, List.cons_append]
    refine run ?_
    refine gR (rd_boxS (us := [.slice A1 n1 c1, .slice A2 n2 c2]) 3 rfl rfl agg24 rfl) ?_
    refine run ?_
    obtain ⟨y33, hy33, h⟩ := bind_elim h
    refine gD (op_callR (reach_At_ok hy33) call16 rfl (mem_cons (lent_ro (i := 1) rfl rfl) (mem_cons (lent_ro (i := 2) rfl rfl) mem_nil)) reach_At_free) ?_
    rintro _ _ ⟨_, ⟨A34, n34, c34, A35, n35, c35, rfl, rfl⟩, rfl⟩
    refine gD (op_alloc zero32 rfl) ?_
    rintro _ _ ⟨B36, rfl, rfl⟩
    refine gO (op_store (us := [iV y33.Kind, iV y33.Shape, iV y33.Flags, iV y33.Age, .slice A34 n34 c34, .slice A35 n35 c35]) (cs' := [iV y33.Kind, iV y33.Shape, iV y33.Flags, iV y33.Age, .slice A34 n34 c34, .slice A35 n35 c35]) 0 rfl rfl rfl rfl size32 rfl rfl rfl) ?_
    rintro _ _ rfl
    refine G_norm ([boxC B36 32 [iV y33.Kind, iV y33.Shape, iV y33.Flags, iV y33.Age, .slice A34 n34 c34, .slice A35 n35 c35], kO3 A34 n34 c34 y33.Slots, kO3 A35 n35 c35 y33.More, kS0 A3 n3 c3 a1, kS1 A1 n1 c1 a0.Young, kS1 A2 n2 c2 a0.Old, boxC B4 24 [.slice A1 n1 c1, .slice A2 n2 c2], kO4 A28 n28 c28 p28, boxC B5 24 [.slice none 0 0, .slice A28 n28 c28], kO3 A29 n29 c29 p29, boxC B6 25 [.slice A29 n29 c29], kS5 A14 n14 c14 y13, boxC B15 35 [.slice A14 n14 c14], mapC ekI evI M16 y22.2, boxC B17 88 [.map (some M16)]]) rfl ?_
    refine run ?_
    refine G_joinF (fun s L => ∃ (p38 : (List DValue)) (p39 : Int) (p40 : Int) (p41 : Int) (p42 : Int) (p43 : (List DValue)) (p44 : (List DValue)) (A38 : Option Addr) (n38 c38 : Nat) (A43 : Option Addr) (n43 c43 : Nat) (A44 : Option Addr) (n44 c44 : Nat), major_Collect_j37 N a1 a0 p28 y13 y22 p38 p39 p40 p41 p42 p43 p44 = some (je, sr27) ∧ s = [(1, .slice A3 n3 c3), (2, pV B4 0), (4, pV B5 0), (5, .slice none 0 0), (6, pV B6 0), (7, iV 0), (9, pV B15 0), (10, pV B17 0), (15, pV B36 0)] ∧ L = [kS0 A3 n3 c3 a1, kS1 A1 n1 c1 a0.Young, kS1 A2 n2 c2 a0.Old, boxC B4 24 [.slice A1 n1 c1, .slice A2 n2 c2], kO4 A28 n28 c28 p28, boxC B5 24 [.slice none 0 0, .slice A28 n28 c28], kO3 A38 n38 c38 p38, boxC B6 25 [.slice A38 n38 c38], kS5 A14 n14 c14 y13, boxC B15 35 [.slice A14 n14 c14], mapC ekI evI M16 y22.2, boxC B17 88 [.map (some M16)], kO3 A43 n43 c43 p43, kO3 A44 n44 c44 p44, boxC B36 32 [iV p39, iV p40, iV p41, iV p42, .slice A43 n43 c43, .slice A44 n44 c44]]) ?_ ?_
    ·refine run ?_
     refine G_cond rfl (fun g45 => ?_) (fun g45 => ?_)
     ·replace h := cond_t g45 h
      refine G_region ?_
      refine gR (rd_boxS (us := [iV y33.Kind, iV y33.Shape, iV y33.Flags, iV y33.Age, .slice A34 n34 c34, .slice A35 n35 c35]) 0 rfl rfl agg32 rfl) ?_
      refine gR (rd_box1 12 rfl rfl one35 rfl) ?_
      obtain ⟨y46, hy46, h⟩ := bind_elim h
      refine gD (op_callR (weak_Clean_ok hy46) call80 rfl (mem_cons (lent_own (i := 1) rfl) (mem_cons (lent_own (i := 2) rfl) (mem_cons (lent_ro (i := 11) rfl rfl) mem_nil))) weak_Clean_free) ?_
      rintro _ _ ⟨_, ⟨A47, n47, c47, A48, n48, c48, rfl, rfl⟩, rfl⟩
      refine gO (op_store (us := [iV y46.Kind, iV y46.Shape, iV y46.Flags, iV y46.Age, .slice A47 n47 c47, .slice A48 n48 c48]) (cs' := [iV y46.Kind, iV y46.Shape, iV y46.Flags, iV y46.Age, .slice A47 n47 c47, .slice A48 n48 c48]) 2 rfl rfl rfl rfl size32 rfl rfl rfl) ?_
      rintro _ _ rfl
      refine run ?_
      exact ⟨_, _, ⟨p29, y46.Kind, y46.Shape, y46.Flags, y46.Age, y46.Slots, y46.More, A29, n29, c29, A47, n47, c47, A48, n48, c48, h, rfl, rfl⟩, sA, cv_sel [5, 6, 7, 8, 9, 10, 11, 12, 13, 14, 15, 16, 0, 1, 2] 17 rfl rfl⟩
     ·replace h := cond_f g45 h
      refine run ?_
      refine G_cond rfl (fun g49 => ?_) (fun g49 => ?_)
      ·replace h := cond_t g49 h
       refine run ?_
       refine gR (rd_boxS (us := [iV y33.Kind, iV y33.Shape, iV y33.Flags, iV y33.Age, .slice A34 n34 c34, .slice A35 n35 c35]) 0 rfl rfl agg32 rfl) ?_
       refine gR (rd_box1 12 rfl rfl one35 rfl) ?_
       obtain ⟨y50, hy50, h⟩ := bind_elim h
       refine gD (op_callR (finreg_Clean_ok hy50) call81 rfl (mem_cons (lent_own (i := 1) rfl) (mem_cons (lent_own (i := 2) rfl) (mem_cons (lent_ro (i := 11) rfl rfl) mem_nil))) finreg_Clean_free) ?_
       rintro _ _ ⟨_, ⟨A51, n51, c51, A52, n52, c52, A53, n53, c53, rfl, rfl⟩, rfl⟩
       refine run ?_
       refine gO (op_store (us := [iV y50.1.Kind, iV y50.1.Shape, iV y50.1.Flags, iV y50.1.Age, .slice A51 n51 c51, .slice A52 n52 c52]) (cs' := [iV y50.1.Kind, iV y50.1.Shape, iV y50.1.Flags, iV y50.1.Age, .slice A51 n51 c51, .slice A52 n52 c52]) 3 rfl rfl rfl rfl size32 rfl rfl rfl) ?_
       rintro _ _ rfl
       refine run ?_
       refine gR (rd_box1 13 rfl rfl one25 rfl) ?_
       refine run ?_
       obtain ⟨q54, h⟩ := req_elim h
       refine gD (op_append 12 2 rfl rfl els_own rfl rfl Tryz.underlying25 zb38 rfl rfl q54) ?_
       rintro _ _ ⟨A55, n55, c55, rfl, rfl⟩
       refine G_norm ([kO3 A51 n51 c51 y50.1.Slots, kO3 A52 n52 c52 y50.1.More, kO3 A53 n53 c53 y50.2, boxC B36 32 [iV y50.1.Kind, iV y50.1.Shape, iV y50.1.Flags, iV y50.1.Age, .slice A51 n51 c51, .slice A52 n52 c52], kO3 A34 n34 c34 y33.Slots, kO3 A35 n35 c35 y33.More, kS0 A3 n3 c3 a1, kS1 A1 n1 c1 a0.Young, kS1 A2 n2 c2 a0.Old, boxC B4 24 [.slice A1 n1 c1, .slice A2 n2 c2], kO4 A28 n28 c28 p28, boxC B5 24 [.slice none 0 0, .slice A28 n28 c28], kO3 A55 n55 c55 (p29 ++ y50.2), boxC B6 25 [.slice A29 n29 c29], kS5 A14 n14 c14 y13, boxC B15 35 [.slice A14 n14 c14], mapC ekI evI M16 y22.2, boxC B17 88 [.map (some M16)]]) rfl ?_
       refine gO (op_store (us := [.slice A55 n55 c55]) (cs' := [.slice A55 n55 c55]) 13 rfl rfl rfl rfl size25 rfl rfl rfl) ?_
       rintro _ _ rfl
       refine run ?_
       exact ⟨_, _, ⟨p29 ++ y50.2, y50.1.Kind, y50.1.Shape, y50.1.Flags, y50.1.Age, y50.1.Slots, y50.1.More, A55, n55, c55, A51, n51, c51, A52, n52, c52, h, rfl, rfl⟩, sA, cv_sel [6, 7, 8, 9, 10, 11, 12, 13, 14, 15, 16, 17, 0, 1, 3] 18 rfl rfl⟩
      ·replace h := cond_f g49 h
       refine run ?_
       exact ⟨_, _, ⟨p29, y33.Kind, y33.Shape, y33.Flags, y33.Age, y33.Slots, y33.More, A29, n29, c29, A34, n34, c34, A35, n35, c35, h, rfl, rfl⟩, sA, cv_sel [3, 4, 5, 6, 7, 8, 9, 10, 11, 12, 13, 14, 1, 2, 0] 15 rfl rfl⟩
    ·rintro _ _ ⟨p38, p39, p40, p41, p42, p43, p44, A38, n38, c38, A43, n43, c43, A44, n44, c44, h, rfl, rfl⟩
     refine G_seq ?_
     obtain ⟨y56, hy56, h⟩ := bind_elim h
     obtain ⟨y59, hy59, h⟩ := bind_elim h
     refine G_sub (t := [(1, .slice A3 n3 c3), (2, pV B4 0), (4, pV B5 0), (5, .slice none 0 0), (6, pV B6 0), (7, iV 0), (9, pV B15 0), (10, pV B17 0), (15, pV B36 0)]) ?_ subT (cv_refl _)
     refine G_monoX (by kernel_rfl) 9 [] [3, 7, 8] [62, 63, 64, 65, 66, 67, 68, 69, 70] [[], [0], [], [1, 2], [], [4], [], [5, 6], []] [aV (pV B36 4),
 aV (.slice A43 n43 c43),
 aV (.map (some M16)),
 aX3 (fun (A58 : Option Addr) (n58 c58 : Nat) => .slice A58 n58 c58) (fun A58 n58 c58 => [kO3 A58 n58 c58 y56]),
 aV (pV B36 5),
 aV (.slice A44 n44 c44),
 aV (.map (some M16)),
 aX3 (fun (A61 : Option Addr) (n61 c61 : Nat) => .slice A61 n61 c61) (fun A61 n61 c61 => [kO3 A61 n61 c61 y59]),
 aV (pV B36 4)] [] (cv_refl _) (qB_nil) (by kernel_rfl) rfl rfl ?_ ?_ ?_
     ·exact qs_nil
     ·refine steps_cons rfl ?_ ?_
      ·exact X_ev (ev_fa rfl fa_32_4) rfl (cvpV rfl (cv_refl _))
      refine steps_cons rfl ?_ ?_
      ·refine X_op (op_callR (major_moved_ok hy59) call82 rfl (mem_cons (lent_own (i := 13) rfl) (mem_cons (lent_map (i := 10) rfl) mem_nil)) major_moved_free) rfl ?_
       rintro _ _ ⟨_, ⟨A60, n60, c60, rfl, rfl⟩, rfl⟩
       exact cvp3 A60 n60 c60 (cv_refl _)
      refine steps_cons rfl ?_ ?_
      ·exact X_rd (rd_box1 11 rfl rfl one88 rfl) rfl (cvpV rfl (cv_refl _))
      refine steps_cons rfl ?_ ?_
      ·exact X_rd (rd_box1 14 rfl rfl one25 rfl) rfl (cvpV rfl (cv_refl _))
      refine steps_cons rfl ?_ ?_
      ·exact X_ev (ev_fa rfl fa_32_5) rfl (cvpV rfl (cv_refl _))
      refine steps_cons rfl ?_ ?_
      ·refine X_op (op_callR (major_moved_ok hy56) call82 rfl (mem_cons (lent_own (i := 12) rfl) (mem_cons (lent_map (i := 10) rfl) mem_nil)) major_moved_free) rfl ?_
       rintro _ _ ⟨_, ⟨A57, n57, c57, rfl, rfl⟩, rfl⟩
       exact cvp3 A57 n57 c57 (cv_refl _)
      refine steps_cons rfl ?_ ?_
      ·exact X_rd (rd_box1 11 rfl rfl one88 rfl) rfl (cvpV rfl (cv_refl _))
      refine steps_cons rfl ?_ ?_
      ·exact X_rd (rd_box1 14 rfl rfl one25 rfl) rfl (cvpV rfl (cv_refl _))
      refine steps_cons rfl ?_ ?_
      ·exact X_ev (ev_fa rfl fa_32_4) rfl (cvpV rfl (cv_refl _))
      exact steps_nil
     ·intro A58 n58 c58 A61 n61 c61
      refine N_sub (t := [(65, .slice A58 n58 c58), (69, .slice A61 n61 c61), (70, pV B36 4), (1, .slice A3 n3 c3), (2, pV B4 0), (4, pV B5 0), (5, .slice none 0 0), (6, pV B6 0), (7, iV 0), (9, pV B15 0), (10, pV B17 0), (15, pV B36 0)]) (L' := [kO3 A58 n58 c58 y56, kO3 A61 n61 c61 y59, kS0 A3 n3 c3 a1, kS1 A1 n1 c1 a0.Young, kS1 A2 n2 c2 a0.Old, boxC B4 24 [.slice A1 n1 c1, .slice A2 n2 c2], kO4 A28 n28 c28 p28, boxC B5 24 [.slice none 0 0, .slice A28 n28 c28], kO3 A38 n38 c38 p38, boxC B6 25 [.slice A38 n38 c38], kS5 A14 n14 c14 y13, boxC B15 35 [.slice A14 n14 c14], mapC ekI evI M16 y22.2, boxC B17 88 [.map (some M16)], kO3 A43 n43 c43 p43, kO3 A44 n44 c44 p44, boxC B36 32 [iV p39, iV p40, iV p41, iV p42, .slice A43 n43 c43, .slice A44 n44 c44]]) ?_ subT (cv_refl _)
      refine N_opn 9 rfl (by kernel_rfl) (op_store (us := [.slice A58 n58 c58]) (cs' := [iV p39, iV p40, iV p41, iV p42, .slice A58 n58 c58, .slice A44 n44 c44]) 16 rfl rfl rfl rfl size25 rfl rfl rfl) rfl rfl ?_
      rintro _ _ rfl
      refine N_ev 10 rfl (by kernel_rfl) (ev_fa rfl fa_32_5) rfl rfl rfl ?_
      refine N_opn 11 rfl (by kernel_rfl) (op_store (us := [.slice A61 n61 c61]) (cs' := [iV p39, iV p40, iV p41, iV p42, .slice A58 n58 c58, .slice A61 n61 c61]) 16 rfl rfl rfl rfl size25 rfl rfl rfl) rfl rfl ?_
      rintro _ _ rfl
      refine N_norm ([kO3 A58 n58 c58 y56, kO3 A61 n61 c61 y59, kS0 A3 n3 c3 a1, kS1 A1 n1 c1 a0.Young, kS1 A2 n2 c2 a0.Old, boxC B4 24 [.slice A1 n1 c1, .slice A2 n2 c2], kO4 A28 n28 c28 p28, boxC B5 24 [.slice none 0 0, .slice A28 n28 c28], kO3 A38 n38 c38 p38, boxC B6 25 [.slice A38 n38 c38], kS5 A14 n14 c14 y13, boxC B15 35 [.slice A14 n14 c14], mapC ekI evI M16 y22.2, boxC B17 88 [.map (some M16)], kO3 A43 n43 c43 p43, kO3 A44 n44 c44 p44, boxC B36 32 [iV p39, iV p40, iV p41, iV p42, .slice A58 n58 c58, .slice A61 n61 c61]]) rfl ?_
      refine N_done (by kernel_rfl) ?_
      refine run ?_
      refine gR (rd_boxS (us := [iV p39, iV p40, iV p41, iV p42, .slice A58 n58 c58, .slice A61 n61 c61]) 16 rfl rfl agg32 rfl) ?_
      refine G_cv (cv_frz 0 rfl) ?_
      refine G_cv (cv_frz 1 rfl) ?_
      refine gD (op_bslice (R := rDCell) (vss := [[iV p39, iV p40, iV p41, iV p42, .slice A58 n58 c58, .slice A61 n61 c61]]) (xs := [(⟨p39, p40, p41, p42, y56, y59⟩ : DCell)]) rfl (bsl_22_1 _ _ _ _ _ _ _ _ _ _) rfl rfl (fun _ _ hr => .cons (⟨_, _, _, _, _, _, rfl, hr 0 _ rfl rfl, hr 1 _ rfl rfl⟩) All2.nil)) ?_
      rintro _ _ ⟨A62, n62, c62, rfl, rfl⟩
      obtain ⟨q63, h⟩ := req_elim h
      refine gD (op_append 7 0 rfl rfl els_own rfl rfl Tryz.underlying22 zb32 rfl rfl q63) ?_
      rintro _ _ ⟨A64, n64, c64, rfl, rfl⟩
      refine G_norm ([kO4 A62 n62 c62 ([(⟨p39, p40, p41, p42, y56, y59⟩ : DCell)] : List DCell), kS0 A58 n58 c58 y56, kS0 A61 n61 c61 y59, kS0 A3 n3 c3 a1, kS1 A1 n1 c1 a0.Young, kS1 A2 n2 c2 a0.Old, boxC B4 24 [.slice A1 n1 c1, .slice A2 n2 c2], kO4 A64 n64 c64 (p28 ++ ([(⟨p39, p40, p41, p42, y56, y59⟩ : DCell)] : List DCell)), boxC B5 24 [.slice none 0 0, .slice A28 n28 c28], kO3 A38 n38 c38 p38, boxC B6 25 [.slice A38 n38 c38], kS5 A14 n14 c14 y13, boxC B15 35 [.slice A14 n14 c14], mapC ekI evI M16 y22.2, boxC B17 88 [.map (some M16)], kO3 A43 n43 c43 p43, kO3 A44 n44 c44 p44, boxC B36 32 [iV p39, iV p40, iV p41, iV p42, .slice A58 n58 c58, .slice A61 n61 c61]]) rfl ?_
      refine run ?_
      refine gO (op_store (us := [.slice A64 n64 c64]) (cs' := [.slice none 0 0, .slice A64 n64 c64]) 8 rfl rfl rfl rfl size22 rfl rfl rfl) ?_
      rintro _ _ rfl
      refine run ?_
      obtain ⟨rfl, rfl⟩ := Prod.mk.inj (Option.some.inj h)
      exact RK_n ((cv_sel [3, 4, 5, 6, 7, 8, 9, 10, 11, 12, 13, 14] 18 rfl rfl).trans (cv_pack1 ((A64, n64, c64), (A38, n38, c38)) rfl))
   ·rintro ⟨⟨A28, n28, c28⟩, ⟨A29, n29, c29⟩⟩ h
    refine K3_norm ([kS0 A3 n3 c3 a1, kS1 A1 n1 c1 a0.Young, kS1 A2 n2 c2 a0.Old, boxC B4 24 [.slice A1 n1 c1, .slice A2 n2 c2], kO4 A28 n28 c28 y30.2.1, boxC B5 24 [.slice none 0 0, .slice A28 n28 c28], kO3 A29 n29 c29 y30.2.2, boxC B6 25 [.slice A29 n29 c29], kS5 A14 n14 c14 y13, boxC B15 35 [.slice A14 n14 c14], mapC ekI evI M16 y22.2, boxC B17 88 [.map (some M16)]]) rfl ?_
    refine run ?_
    refine G_seq ?_
    obtain ⟨y65, hy65, h⟩ := bind_elim h
    obtain ⟨y68, hy68, h⟩ := bind_elim h
    refine G_sub (t := [(1, .slice A3 n3 c3), (4, pV B5 0), (5, .slice none 0 0), (6, pV B6 0), (7, iV 0), (10, pV B17 0)]) ?_ subT (cv_refl _)
    refine G_monoX (by kernel_rfl) 7 [] [0, 3, 6] [78, 79, 80, 81, 82, 83, 84] [[], [], [], [1, 2], [], [], [4, 5]] [aV (.agg #[.slice none 0 0, .slice A28 n28 c28]),
 aV (.slice A3 n3 c3),
 aV (.map (some M16)),
 aX3 (fun (A67 : Option Addr) (n67 c67 : Nat) => .slice A67 n67 c67) (fun A67 n67 c67 => [kO3 A67 n67 c67 y65]),
 aV (.slice A29 n29 c29),
 aV (.map (some M16)),
 aX3 (fun (A70 : Option Addr) (n70 c70 : Nat) => .slice A70 n70 c70) (fun A70 n70 c70 => [kO3 A70 n70 c70 y68])] [] (cv_refl _) (qB_nil) (by kernel_rfl) rfl rfl ?_ ?_ ?_
    ·exact qs_nil
    ·refine steps_cons rfl ?_ ?_
     ·refine X_op (op_callR (major_moved_ok hy68) call82 rfl (mem_cons (lent_own (i := 6) rfl) (mem_cons (lent_map (i := 10) rfl) mem_nil)) major_moved_free) rfl ?_
      rintro _ _ ⟨_, ⟨A69, n69, c69, rfl, rfl⟩, rfl⟩
      exact cvp3 A69 n69 c69 (cv_refl _)
     refine steps_cons rfl ?_ ?_
     ·exact X_rd (rd_box1 11 rfl rfl one88 rfl) rfl (cvpV rfl (cv_refl _))
     refine steps_cons rfl ?_ ?_
     ·exact X_rd (rd_box1 7 rfl rfl one25 rfl) rfl (cvpV rfl (cv_refl _))
     refine steps_cons rfl ?_ ?_
     ·refine X_op (op_callR (major_moved_ok hy65) call82 rfl (mem_cons (lent_ro (i := 0) rfl rfl) (mem_cons (lent_map (i := 10) rfl) mem_nil)) major_moved_free) rfl ?_
      rintro _ _ ⟨_, ⟨A66, n66, c66, rfl, rfl⟩, rfl⟩
      exact cvp3 A66 n66 c66 (cv_refl _)
     refine steps_cons rfl ?_ ?_
     ·exact X_rd (rd_box1 11 rfl rfl one88 rfl) rfl (cvpV rfl (cv_refl _))
     refine steps_cons rfl ?_ ?_
     ·exact X_ev (ev_move rfl) rfl (cvpV rfl (cv_refl _))
     refine steps_cons rfl ?_ ?_
     ·exact X_rd (rd_boxS (us := [.slice none 0 0, .slice A28 n28 c28]) 5 rfl rfl agg24 rfl) rfl (cvpV rfl (cv_refl _))
     exact steps_nil
    ·intro A67 n67 c67 A70 n70 c70
     refine N_sub (t := [(78, .agg #[.slice none 0 0, .slice A28 n28 c28]), (81, .slice A67 n67 c67), (84, .slice A70 n70 c70), (1, .slice A3 n3 c3), (4, pV B5 0), (5, .slice none 0 0), (6, pV B6 0), (7, iV 0), (10, pV B17 0)]) (L' := [kO3 A67 n67 c67 y65, kO3 A70 n70 c70 y68, kS0 A3 n3 c3 a1, kS1 A1 n1 c1 a0.Young, kS1 A2 n2 c2 a0.Old, boxC B4 24 [.slice A1 n1 c1, .slice A2 n2 c2], kO4 A28 n28 c28 y30.2.1, boxC B5 24 [.slice none 0 0, .slice A28 n28 c28], kO3 A29 n29 c29 y30.2.2, boxC B6 25 [.slice A29 n29 c29], kS5 A14 n14 c14 y13, boxC B15 35 [.slice A14 n14 c14], mapC ekI evI M16 y22.2, boxC B17 88 [.map (some M16)]]) ?_ subT (cv_refl _)
     refine N_opn 7 rfl (by kernel_rfl) (op_store (us := [.slice none 0 0, .slice A28 n28 c28]) (cs' := [.slice none 0 0, .slice A28 n28 c28]) 7 rfl rfl rfl rfl size24 rfl rfl rfl) rfl rfl ?_
     rintro _ _ rfl
     refine N_ev 8 rfl (by kernel_rfl) (ev_assign rfl) rfl rfl rfl ?_
     refine N_opn 9 rfl (by kernel_rfl) (op_store (us := [.slice A70 n70 c70]) (cs' := [.slice A70 n70 c70]) 9 rfl rfl rfl rfl size25 rfl rfl rfl) rfl rfl ?_
     rintro _ _ rfl
     refine N_norm ([kO3 A67 n67 c67 y65, kO3 A70 n70 c70 y68, kS0 A3 n3 c3 a1, kS1 A1 n1 c1 a0.Young, kS1 A2 n2 c2 a0.Old, boxC B4 24 [.slice A1 n1 c1, .slice A2 n2 c2], kO4 A28 n28 c28 y30.2.1, boxC B5 24 [.slice none 0 0, .slice A28 n28 c28], kO3 A29 n29 c29 y30.2.2, boxC B6 25 [.slice A70 n70 c70], kS5 A14 n14 c14 y13, boxC B15 35 [.slice A14 n14 c14], mapC ekI evI M16 y22.2, boxC B17 88 [.map (some M16)]]) rfl ?_
     refine N_ev 10 rfl (by kernel_rfl) (ev_assign rfl) rfl rfl rfl ?_
     refine N_done (by kernel_rfl) ?_
     refine run ?_
     obtain rfl := Option.some.inj h
     exact endGl (rs := [.cell 4 24, .tmp 5, .cell 6 25, .tmp 7]) (vs := [.agg #[.slice none 0 0, .slice A28 n28 c28], .slice A67 n67 c67, .slice A70 n70 c70, iV 0]) rfl (.cons (rv_boxS 7 rfl rfl agg24) (.cons (rv_tmp rfl) (.cons (rv_box1 9 rfl rfl one25) (.cons (rv_tmp rfl) .nil)))) rfl ((cv_nil rDCell 32 _).trans (cv_sel [0, 7, 1, 2] 15 rfl rfl)) ⟨_, _, _, _, _, _, _, _, _, _, _, _, rfl, rfl⟩
   ·rintro ⟨⟨A28, n28, c28⟩, ⟨A29, n29, c29⟩⟩ h
    exact none_some h
   ·rintro i ⟨⟨A28, n28, c28⟩, ⟨A29, n29, c29⟩⟩ h
    exact none_some h
  ·rintro _ h
   exact none_some h
  ·rintro i _ h
   exact none_some h
end Go.Proofs.YtmbaennilhdieaaGreat
/- Pure functions and contracts of Go functions (printed by all3.py). -/
namespace Go.Proofs.YtmbaennilhdieaaGreat
open Go.RowKit Asn
set_option maxRecDepth 20000
def w22_goes_O (N : Nat) : Option Bool :=
 (w22_object_O N 2).bind fun y1 => (w22_goes_c1_O N ([y1] : List DValue)).bind fun y3 => (w22_goes_c1_O N []).bind fun y6 => (w22_goes_c1_O N []).bind fun y11 => (w22_goes_c1_O N []).bind fun y15 => (w22_object_O N 1).bind fun y21 => (major_Places_O N (⟨([y3, y6] : List DCell), ([y11, y15] : List DCell)⟩ : DMemory) ([y21] : List DValue)).bind fun y23 => (w22_object_O N 1).bind fun y26 => (major_Collect_O N (⟨([y3, y6] : List DCell), ([y11, y15] : List DCell)⟩ : DMemory) ([y26] : List DValue)).bind fun y29 => (w22_object_O N 4).bind fun y57 => (w22_object_O N 6).bind fun y58 => (w22_object_O N 8).bind fun y59 => (w22_goes_c1_O N []).bind fun y61 => (w22_goes_c1_O N []).bind fun y65 => (w22_goes_c1_O N []).bind fun y69 => (w22_object_O N 2).bind fun y75 => (major_Collect_O N (⟨[], ([(⟨10, 0, 0, 0, ([(⟨1, 0, ⟨#[]⟩⟩ : DValue)] : List DValue), ([y57, y58, y59, (⟨0, 0, ⟨#[]⟩⟩ : DValue), (⟨3, 7, ⟨#[]⟩⟩ : DValue)] : List DValue)⟩ : DCell), y61, y65, y69] : List DCell)⟩ : DMemory) ([y75] : List DValue)).bind fun y78 => (r19_Same_O N y23.1 ([2, 1] : List Int)).bind fun y108 => (bif y108 then ((r19_Same_O N y23.2 ([2, 4] : List Int)).bind fun y112 => some y112) else (some false)).bind fun b109 => ((bif b109 then (some (decide (y29.2.2.2 = 0))) else (some false)).bind fun b113 => ((bif b113 then (some (decide ((y29.1.Old.length : Int) = 2))) else (some false)).bind fun b114 => ((bif b114 then (some (decide ((y29.1.Young.length : Int) = 0))) else (some false)).bind fun b115 => ((bif b115 then ((getE y29.1.Old 1).bind fun x117 => some (decide ((x117.More.length : Int) = 1))) else (some false)).bind fun b116 => ((bif b116 then ((getE y29.1.Old 1).bind fun x123 => (getE x123.More 0).bind fun x128 => (w22_object_O N 2).bind fun y131 => some (decide (x128 = y131))) else (some false)).bind fun b122 => ((bif b122 then (some (decide ((y29.2.1.length : Int) = 1))) else (some false)).bind fun b132 => ((bif b132 then ((getE y29.2.1 0).bind fun x134 => (w22_object_O N 4).bind fun y135 => some (decide (x134 = y135))) else (some false)).bind fun b133 => ((bif b133 then (some (decide ((y29.2.2.1.length : Int) = 0))) else (some false)).bind fun b136 => ((bif b136 then (some (decide (y78.2.2.2 = 0))) else (some false)).bind fun b137 => ((bif b137 then (some (decide ((y78.1.Old.length : Int) = 3))) else (some false)).bind fun b138 => ((bif b138 then ((w22_object_O N 4).bind fun y140 => (w22_object_O N 6).bind fun y141 => (r15_SameValues_O N y78.2.2.1 ([y140, y141, (⟨3, 7, ⟨#[]⟩⟩ : DValue)] : List DValue)).bind fun y144 => some y144) else (some false)).bind fun b139 => (some b139))))))))))))
set_option maxHeartbeats 4000000 in
theorem w22_goes_ok {N : Nat} {r : Bool} (h : w22_goes_O N = some r) : Okc Tryz.prog 30 [] ([]) (fun (u : Value) (post : List Chunk) => u = .bool r ∧ post = []) := by
 refine ok_E Tryz.func30 rfl rfl ?_
 simp only [envOf]
 refine run ?_
 obtain ⟨y1, hy1, h⟩ := bind_elim h
 refine gD (op_callR (w22_object_ok hy1) call77 rfl (mem_nil) w22_object_free) ?_
 rintro _ _ ⟨_, ⟨rfl, rfl⟩, rfl⟩
 refine gD (op_bslice (R := rDValue) (vss := [[iV y1.Kind, iV y1.N, .string y1.S]]) (xs := [y1]) rfl (bsl_25_1 _ _ _) rfl rfl (fun _ _ hr => .cons rfl All2.nil)) ?_
 rintro _ _ ⟨A2, n2, c2, rfl, rfl⟩
 obtain ⟨y3, hy3, h⟩ := bind_elim h
 refine G_cv (cv_frz 0 rfl) ?_
 refine G_norm ([kS0 A2 n2 c2 ([y1] : List DValue)]) rfl ?_
 refine gD (op_callc (w22_goes_c1_ok hy3) call76 rfl rfl rfl (cv_take [0] [] [0] 1 rfl)) ?_
 rintro _ _ ⟨_, ⟨A4, n4, c4, A5, n5, c5, rfl, rfl⟩, rfl⟩
 refine G_norm ([kS0 A4 n4 c4 y3.Slots, kS0 A5 n5 c5 y3.More, kS0 A2 n2 c2 ([y1] : List DValue)]) rfl ?_
 refine run ?_
 obtain ⟨y6, hy6, h⟩ := bind_elim h
 refine G_cv (cv_nilS rDValue _) ?_
 refine gD (op_callc (w22_goes_c1_ok hy6) call76 rfl rfl rfl (cv_take [0] [] [0, 1, 2, 3] 4 rfl)) ?_
 rintro _ _ ⟨_, ⟨A7, n7, c7, A8, n8, c8, rfl, rfl⟩, rfl⟩
 refine G_norm ([kS0 A7 n7 c7 y6.Slots, kS0 A8 n8 c8 y6.More, slC rDValue (.slice none 0 0) ([] : List DValue), kS0 A4 n4 c4 y3.Slots, kS0 A5 n5 c5 y3.More, kS0 A2 n2 c2 ([y1] : List DValue)]) rfl ?_
 refine gD (op_bslice (R := rDCell) (vss := [[iV y3.Kind, iV y3.Shape, iV y3.Flags, iV y3.Age, .slice A4 n4 c4, .slice A5 n5 c5], [iV y6.Kind, iV y6.Shape, iV y6.Flags, iV y6.Age, .slice A7 n7 c7, .slice A8 n8 c8]]) (xs := [y3, y6]) rfl (bsl_22_2 _ _ _ _ _ _ _ _ _ _ _ _ _ _ _ _ _ _ _ _) rfl rfl (fun _ _ hr => .cons (⟨_, _, _, _, _, _, rfl, hr 3 _ rfl rfl, hr 4 _ rfl rfl⟩) (.cons (⟨_, _, _, _, _, _, rfl, hr 0 _ rfl rfl, hr 1 _ rfl rfl⟩) All2.nil))) ?_
 rintro _ _ ⟨A10, n10, c10, rfl, rfl⟩
 refine run ?_
 obtain ⟨y11, hy11, h⟩ := bind_elim h
 refine G_cv (cv_nilS rDValue _) ?_
 refine gD (op_callc (w22_goes_c1_ok hy11) call76 rfl rfl rfl (cv_take [0] [] [0, 1, 2, 3, 4, 5, 6, 7] 8 rfl)) ?_
 rintro _ _ ⟨_, ⟨A12, n12, c12, A13, n13, c13, rfl, rfl⟩, rfl⟩
 refine G_norm ([kS0 A12 n12 c12 y11.Slots, kS0 A13 n13 c13 y11.More, slC rDValue (.slice none 0 0) ([] : List DValue), kO4 A10 n10 c10 ([y3, y6] : List DCell), kS0 A7 n7 c7 y6.Slots, kS0 A8 n8 c8 y6.More, slC rDValue (.slice none 0 0) ([] : List DValue), kS0 A4 n4 c4 y3.Slots, kS0 A5 n5 c5 y3.More, kS0 A2 n2 c2 ([y1] : List DValue)]) rfl ?_
 refine run ?_
 obtain ⟨y15, hy15, h⟩ := bind_elim h
 refine G_cv (cv_nilS rDValue _) ?_
 refine gD (op_callc (w22_goes_c1_ok hy15) call76 rfl rfl rfl (cv_take [0] [] [0, 1, 2, 3, 4, 5, 6, 7, 8, 9, 10] 11 rfl)) ?_
 rintro _ _ ⟨_, ⟨A16, n16, c16, A17, n17, c17, rfl, rfl⟩, rfl⟩
 refine G_norm ([kS0 A16 n16 c16 y15.Slots, kS0 A17 n17 c17 y15.More, slC rDValue (.slice none 0 0) ([] : List DValue), kS0 A12 n12 c12 y11.Slots, kS0 A13 n13 c13 y11.More, slC rDValue (.slice none 0 0) ([] : List DValue), kO4 A10 n10 c10 ([y3, y6] : List DCell), kS0 A7 n7 c7 y6.Slots, kS0 A8 n8 c8 y6.More, slC rDValue (.slice none 0 0) ([] : List DValue), kS0 A4 n4 c4 y3.Slots, kS0 A5 n5 c5 y3.More, kS0 A2 n2 c2 ([y1] : List DValue)]) rfl ?_
 refine gD (op_bslice (R := rDCell) (vss := [[iV y11.Kind, iV y11.Shape, iV y11.Flags, iV y11.Age, .slice A12 n12 c12, .slice A13 n13 c13], [iV y15.Kind, iV y15.Shape, iV y15.Flags, iV y15.Age, .slice A16 n16 c16, .slice A17 n17 c17]]) (xs := [y11, y15]) rfl (bsl_22_2 _ _ _ _ _ _ _ _ _ _ _ _ _ _ _ _ _ _ _ _) rfl rfl (fun _ _ hr => .cons (⟨_, _, _, _, _, _, rfl, hr 3 _ rfl rfl, hr 4 _ rfl rfl⟩) (.cons (⟨_, _, _, _, _, _, rfl, hr 0 _ rfl rfl, hr 1 _ rfl rfl⟩) All2.nil))) ?_
 rintro _ _ ⟨A19, n19, c19, rfl, rfl⟩
 refine gE (ev_build rfl (bld_24_0_1 _ _ _ _ _ _)) ?_
 refine gD (op_alloc zero24 rfl) ?_
 rintro _ _ ⟨B20, rfl, rfl⟩
 refine gO (op_store (us := [.slice A10 n10 c10, .slice A19 n19 c19]) (cs' := [.slice A10 n10 c10, .slice A19 n19 c19]) 0 rfl rfl rfl rfl size24 rfl rfl rfl) ?_
 rintro _ _ rfl
 refine G_norm ([boxC B20 24 [.slice A10 n10 c10, .slice A19 n19 c19], kO4 A19 n19 c19 ([y11, y15] : List DCell), kS0 A16 n16 c16 y15.Slots, kS0 A17 n17 c17 y15.More, slC rDValue (.slice none 0 0) ([] : List DValue), kS0 A12 n12 c12 y11.Slots, kS0 A13 n13 c13 y11.More, slC rDValue (.slice none 0 0) ([] : List DValue), kO4 A10 n10 c10 ([y3, y6] : List DCell), kS0 A7 n7 c7 y6.Slots, kS0 A8 n8 c8 y6.More, slC rDValue (.slice none 0 0) ([] : List DValue), kS0 A4 n4 c4 y3.Slots, kS0 A5 n5 c5 y3.More, kS0 A2 n2 c2 ([y1] : List DValue)]) rfl ?_
 refine run ?_
 refine G_seq ?_
 refine G_drawn (by kernel_rfl) _ (cv_refl _) ?_
 refine T3_rd 0 rfl (by kernel_rfl) (rd_boxS (us := [.slice A10 n10 c10, .slice A19 n19 c19]) 0 rfl rfl agg24 rfl) rfl rfl ?_
 obtain ⟨y21, hy21, h⟩ := bind_elim h
 refine T3_opd 1 rfl (by kernel_rfl) (op_callR (w22_object_ok hy21) call77 rfl (mem_nil) w22_object_free) rfl rfl rfl ?_
 rintro _ _ ⟨_, ⟨rfl, rfl⟩, rfl⟩
 refine ⟨_, cv_refl _, cv_refl _, ?_⟩
 refine T3_opd 2 rfl (by kernel_rfl) (op_bslice (R := rDValue) (vss := [[iV y21.Kind, iV y21.N, .string y21.S]]) (xs := [y21]) rfl (bsl_25_1 _ _ _) rfl rfl (fun _ _ hr => .cons rfl All2.nil)) rfl rfl rfl ?_
 rintro _ _ ⟨A22, n22, c22, rfl, rfl⟩
 refine ⟨[boxC B20 24 [.slice A10 n10 c10, .slice A19 n19 c19], kO4 A19 n19 c19 ([y11, y15] : List DCell), kS0 A16 n16 c16 y15.Slots, kS0 A17 n17 c17 y15.More, slC rDValue (.slice none 0 0) ([] : List DValue), kS0 A12 n12 c12 y11.Slots, kS0 A13 n13 c13 y11.More, slC rDValue (.slice none 0 0) ([] : List DValue), kO4 A10 n10 c10 ([y3, y6] : List DCell), kS0 A7 n7 c7 y6.Slots, kS0 A8 n8 c8 y6.More, slC rDValue (.slice none 0 0) ([] : List DValue), kS0 A4 n4 c4 y3.Slots, kS0 A5 n5 c5 y3.More, kS0 A2 n2 c2 ([y1] : List DValue)], cv_sel [1, 2, 3, 4, 5, 6, 7, 8, 9, 10, 11, 12, 13, 14, 15] 16 rfl rfl, cv_refl _, ?_⟩
 obtain ⟨y23, hy23, h⟩ := bind_elim h
 refine T3_opd 3 rfl (by kernel_rfl) (op_callR (major_Places_ok hy23) call33 rfl (mem_cons (lent_own (i := 9) rfl) (mem_cons (lent_own (i := 2) rfl) (mem_cons (lent_own (i := 0) rfl) mem_nil))) major_Places_free) rfl rfl rfl ?_
 rintro _ _ ⟨_, ⟨A24, n24, c24, A25, n25, c25, rfl, rfl⟩, rfl⟩
 refine ⟨[boxC B20 24 [.slice A10 n10 c10, .slice A19 n19 c19], kO4 A19 n19 c19 ([y11, y15] : List DCell), kS0 A16 n16 c16 y15.Slots, kS0 A17 n17 c17 y15.More, slC rDValue (.slice none 0 0) ([] : List DValue), kS0 A12 n12 c12 y11.Slots, kS0 A13 n13 c13 y11.More, slC rDValue (.slice none 0 0) ([] : List DValue), kO4 A10 n10 c10 ([y3, y6] : List DCell), kS0 A7 n7 c7 y6.Slots, kS0 A8 n8 c8 y6.More, slC rDValue (.slice none 0 0) ([] : List DValue), kS0 A4 n4 c4 y3.Slots, kS0 A5 n5 c5 y3.More, kS0 A2 n2 c2 ([y1] : List DValue)], cv_sel [3, 4, 5, 6, 7, 8, 9, 10, 11, 12, 13, 14, 15, 16, 17] 18 rfl rfl, cv_refl _, ?_⟩
 refine T3_ev 4 rfl (by kernel_rfl) (ev_move rfl) rfl rfl ?_
 refine T3_ev 5 rfl (by kernel_rfl) (ev_extract rfl rfl) rfl rfl ?_
 refine T3_ev 6 rfl (by kernel_rfl) (ev_extract rfl rfl) rfl rfl ?_
 refine T3_ev 7 rfl (by kernel_rfl) (ev_assign rfl) rfl rfl ?_
 refine T3_ev 8 rfl (by kernel_rfl) (ev_assign rfl) rfl rfl ?_
 refine T3_done (by kernel_rfl) ?_
 refine nx_n ?_
 refine G_seq ?_
 refine G_sub ?_ sub_refl (cv_frz 4 rfl)
 refine Wq_norm ([kO2 A24 n24 c24 y23.1, kO2 A25 n25 c25 y23.2, kO3 A22 n22 c22 ([y21] : List DValue), boxC B20 24 [.slice A10 n10 c10, .slice A19 n19 c19], kS1 A19 n19 c19 ([y11, y15] : List DCell), kS0 A16 n16 c16 y15.Slots, kS0 A17 n17 c17 y15.More, slC rDValue (.slice none 0 0) ([] : List DValue), kS0 A12 n12 c12 y11.Slots, kS0 A13 n13 c13 y11.More, slC rDValue (.slice none 0 0) ([] : List DValue), kO4 A10 n10 c10 ([y3, y6] : List DCell), kS0 A7 n7 c7 y6.Slots, kS0 A8 n8 c8 y6.More, slC rDValue (.slice none 0 0) ([] : List DValue), kS0 A4 n4 c4 y3.Slots, kS0 A5 n5 c5 y3.More, kS0 A2 n2 c2 ([y1] : List DValue)]) rfl ?_
 refine G_sub ?_ sub_refl (cv_frz 11 rfl)
 refine Wq_norm ([kO2 A24 n24 c24 y23.1, kO2 A25 n25 c25 y23.2, kO3 A22 n22 c22 ([y21] : List DValue), boxC B20 24 [.slice A10 n10 c10, .slice A19 n19 c19], kS1 A19 n19 c19 ([y11, y15] : List DCell), kS0 A16 n16 c16 y15.Slots, kS0 A17 n17 c17 y15.More, slC rDValue (.slice none 0 0) ([] : List DValue), kS0 A12 n12 c12 y11.Slots, kS0 A13 n13 c13 y11.More, slC rDValue (.slice none 0 0) ([] : List DValue), kS1 A10 n10 c10 ([y3, y6] : List DCell), kS0 A7 n7 c7 y6.Slots, kS0 A8 n8 c8 y6.More, slC rDValue (.slice none 0 0) ([] : List DValue), kS0 A4 n4 c4 y3.Slots, kS0 A5 n5 c5 y3.More, kS0 A2 n2 c2 ([y1] : List DValue)]) rfl ?_
 obtain ⟨y26, hy26, h⟩ := bind_elim h
 obtain ⟨y29, hy29, h⟩ := bind_elim h
 refine G_sub (t := [(0, .bool false), (1, .func (.func 76) #[] #[]), (2, pV B20 0), (3, .slice A24 n24 c24), (4, .slice A25 n25 c25)]) ?_ subT (cv_refl _)
 refine G_monoX (by kernel_rfl) 10 [6, 7, 8] [5, 6, 7, 8, 9] [35, 36, 37, 38, 34, 39, 40, 41, 42, 5] [[], [], [1], [0, 2], [3], [4], [4], [4], [4], []] [aV (.agg #[.slice A10 n10 c10, .slice A19 n19 c19]),
 aV (.agg #[iV y26.Kind, iV y26.N, .string y26.S]),
 aX3 (fun (A28 : Option Addr) (n28 c28 : Nat) => .slice A28 n28 c28) (fun A28 n28 c28 => [kS0 A28 n28 c28 ([y26] : List DValue)]),
 aX12 (fun (A34 : Option Addr) (n34 c34 : Nat) (A35 : Option Addr) (n35 c35 : Nat) (A36 : Option Addr) (n36 c36 : Nat) (A37 : Option Addr) (n37 c37 : Nat) => .tuple #[.agg #[.slice A34 n34 c34, .slice A35 n35 c35], .slice A36 n36 c36, .slice A37 n37 c37, iV y29.2.2.2]) (fun A34 n34 c34 A35 n35 c35 A36 n36 c36 A37 n37 c37 => [kS1 A34 n34 c34 y29.1.Young, kS1 A35 n35 c35 y29.1.Old, kS0 A36 n36 c36 y29.2.1, kS0 A37 n37 c37 y29.2.2.1]),
 aX12 (fun (A38 : Option Addr) (n38 c38 : Nat) (A39 : Option Addr) (n39 c39 : Nat) (A40 : Option Addr) (n40 c40 : Nat) (A41 : Option Addr) (n41 c41 : Nat) => .tuple #[.agg #[.slice A38 n38 c38, .slice A39 n39 c39], .slice A40 n40 c40, .slice A41 n41 c41, iV y29.2.2.2]) (fun A38 n38 c38 A39 n39 c39 A40 n40 c40 A41 n41 c41 => [kS1 A38 n38 c38 y29.1.Young, kS1 A39 n39 c39 y29.1.Old, kS0 A40 n40 c40 y29.2.1, kS0 A41 n41 c41 y29.2.2.1]),
 aX6 (fun (A46 : Option Addr) (n46 c46 : Nat) (A47 : Option Addr) (n47 c47 : Nat) => .agg #[.slice A46 n46 c46, .slice A47 n47 c47]) (fun A46 n46 c46 A47 n47 c47 => [kS1 A46 n46 c46 y29.1.Young, kS1 A47 n47 c47 y29.1.Old]),
 aX3 (fun (A50 : Option Addr) (n50 c50 : Nat) => .slice A50 n50 c50) (fun A50 n50 c50 => [kS0 A50 n50 c50 y29.2.1]),
 aX3 (fun (A52 : Option Addr) (n52 c52 : Nat) => .slice A52 n52 c52) (fun A52 n52 c52 => [kS0 A52 n52 c52 y29.2.2.1]),
 aV (iV y29.2.2.2),
 aX1 (fun (B55 : Nat) => pV B55 0) (fun B55 => [boxC B55 24 [.slice none 0 0, .slice none 0 0]])] [] (cv_refl _) (qB_cons rfl (qB_cons rfl (qB_cons rfl qB_nil))) (by kernel_rfl) rfl rfl ?_ ?_ ?_
 ·refine qs_cons rfl ?_ ?_
  ·intro A38 n38 c38 A39 n39 c39 A40 n40 c40 A41 n41 c41
   exact QS_ev (ev_extract rfl rfl) rfl (cvp3 A40 n40 c40 ((cv_dup 2 rfl rfl).trans (cv_refl _)))
  refine qs_cons rfl ?_ ?_
  ·intro A38 n38 c38 A39 n39 c39 A40 n40 c40 A41 n41 c41
   exact QS_ev (ev_extract rfl rfl) rfl (cvp3 A41 n41 c41 ((cv_dup 3 rfl rfl).trans (cv_refl _)))
  refine qs_cons rfl ?_ ?_
  ·intro A38 n38 c38 A39 n39 c39 A40 n40 c40 A41 n41 c41
   exact QS_ev (ev_extract rfl rfl) rfl (cvpV rfl (cv_refl _))
  exact qs_nil
 ·refine steps_cons rfl ?_ ?_
  ·refine X_op (op_alloc zero24 rfl) rfl ?_
   rintro _ _ ⟨B54, rfl, rfl⟩
   exact cvp1 B54 (cv_refl _)
  refine steps_cons rfl ?_ ?_
  ·intro A38 n38 c38 A39 n39 c39 A40 n40 c40 A41 n41 c41
   exact X_ev (ev_extract rfl rfl) rfl (cvpV rfl (cv_refl _))
  refine steps_cons rfl ?_ ?_
  ·intro A38 n38 c38 A39 n39 c39 A40 n40 c40 A41 n41 c41
   exact X_ev (ev_extract rfl rfl) rfl (cvp3 A41 n41 c41 ((cv_dup 3 rfl rfl).trans (cv_refl _)))
  refine steps_cons rfl ?_ ?_
  ·intro A38 n38 c38 A39 n39 c39 A40 n40 c40 A41 n41 c41
   exact X_ev (ev_extract rfl rfl) rfl (cvp3 A40 n40 c40 ((cv_dup 2 rfl rfl).trans (cv_refl _)))
  refine steps_cons rfl ?_ ?_
  ·intro A38 n38 c38 A39 n39 c39 A40 n40 c40 A41 n41 c41
   exact X_ev (ev_extract rfl rfl) rfl (cvp6 A38 n38 c38 A39 n39 c39 ((cv_dup 0 rfl rfl).trans ((cv_dup 2 rfl rfl).trans (cv_sel [1, 0, 2, 3, 4, 5, 6, 7, 8, 9, 10, 11, 12, 13, 14, 15, 16, 17, 18, 19, 20, 21, 22, 23] 24 rfl rfl))))
  refine steps_cons rfl ?_ ?_
  ·intro A34 n34 c34 A35 n35 c35 A36 n36 c36 A37 n37 c37
   exact X_ev (ev_move rfl) rfl (cvp12 A34 n34 c34 A35 n35 c35 A36 n36 c36 A37 n37 c37 ((cv_dup 0 rfl rfl).trans ((cv_dup 2 rfl rfl).trans ((cv_dup 4 rfl rfl).trans ((cv_dup 6 rfl rfl).trans (cv_sel [3, 2, 1, 0, 4, 5, 6, 7, 8, 9, 10, 11, 12, 13, 14, 15, 16, 17, 18, 19, 20, 21, 22, 23, 24, 25] 26 rfl rfl))))))
  refine steps_cons rfl ?_ ?_
  ·intro A28 n28 c28
   refine X_op (op_call (major_Collect_ok hy29) call31 rfl (cv_take [12, 5, 0] [] [0, 1, 2, 3, 4, 5, 6, 7, 8, 9, 10, 11, 12, 13, 14, 15, 16, 17, 18] 19 rfl)) rfl ?_
   rintro _ _ ⟨_, ⟨A30, n30, c30, A31, n31, c31, A32, n32, c32, A33, n33, c33, rfl, rfl⟩, rfl⟩
   exact cvp12 A30 n30 c30 A31 n31 c31 A32 n32 c32 A33 n33 c33 ((cv_frz 0 rfl).trans ((cv_frz 1 rfl).trans ((cv_frz 2 rfl).trans ((cv_frz 3 rfl).trans (cv_refl _)))))
  refine steps_cons rfl ?_ ?_
  ·refine X_op (op_bslice (R := rDValue) (vss := [[iV y26.Kind, iV y26.N, .string y26.S]]) (xs := [y26]) rfl (bsl_25_1 _ _ _) rfl rfl (fun _ _ hr => .cons rfl All2.nil)) rfl ?_
   rintro _ _ ⟨A27, n27, c27, rfl, rfl⟩
   exact cvp3 A27 n27 c27 ((cv_frz 0 rfl).trans (cv_refl _))
  refine steps_cons rfl ?_ ?_
  ·refine X_op (op_callR (w22_object_ok hy26) call77 rfl (mem_nil) w22_object_free) rfl ?_
   rintro _ _ ⟨_, ⟨rfl, rfl⟩, rfl⟩
   exact cvpV rfl (cv_refl _)
  refine steps_cons rfl ?_ ?_
  ·exact X_rd (rd_boxS (us := [.slice A10 n10 c10, .slice A19 n19 c19]) 3 rfl rfl agg24 rfl) rfl (cvpV rfl (cv_refl _))
  exact steps_nil
 ·intro A46 n46 c46 A47 n47 c47 A50 n50 c50 A52 n52 c52 B55
  refine N_sub (t := [(39, .agg #[.slice A46 n46 c46, .slice A47 n47 c47]), (40, .slice A50 n50 c50), (41, .slice A52 n52 c52), (42, iV y29.2.2.2), (5, pV B55 0), (0, .bool false), (1, .func (.func 76) #[] #[]), (2, pV B20 0), (3, .slice A24 n24 c24), (4, .slice A25 n25 c25)]) (L' := [kS1 A46 n46 c46 y29.1.Young, kS1 A47 n47 c47 y29.1.Old, kS0 A50 n50 c50 y29.2.1, kS0 A52 n52 c52 y29.2.2.1, boxC B55 24 [.slice none 0 0, .slice none 0 0], kO2 A24 n24 c24 y23.1, kO2 A25 n25 c25 y23.2, kO3 A22 n22 c22 ([y21] : List DValue), boxC B20 24 [.slice A10 n10 c10, .slice A19 n19 c19], kS1 A19 n19 c19 ([y11, y15] : List DCell), kS0 A16 n16 c16 y15.Slots, kS0 A17 n17 c17 y15.More, slC rDValue (.slice none 0 0) ([] : List DValue), kS0 A12 n12 c12 y11.Slots, kS0 A13 n13 c13 y11.More, slC rDValue (.slice none 0 0) ([] : List DValue), kS1 A10 n10 c10 ([y3, y6] : List DCell), kS0 A7 n7 c7 y6.Slots, kS0 A8 n8 c8 y6.More, slC rDValue (.slice none 0 0) ([] : List DValue), kS0 A4 n4 c4 y3.Slots, kS0 A5 n5 c5 y3.More, kS0 A2 n2 c2 ([y1] : List DValue)]) ?_ subT (cv_refl _)
  refine N_opn 10 rfl (by kernel_rfl) (op_store (us := [.slice A46 n46 c46, .slice A47 n47 c47]) (cs' := [.slice A46 n46 c46, .slice A47 n47 c47]) 4 rfl rfl rfl rfl size24 rfl rfl rfl) rfl rfl ?_
  rintro _ _ rfl
  refine N_norm ([kS1 A46 n46 c46 y29.1.Young, kS1 A47 n47 c47 y29.1.Old, kS0 A50 n50 c50 y29.2.1, kS0 A52 n52 c52 y29.2.2.1, boxC B55 24 [.slice A46 n46 c46, .slice A47 n47 c47], kO2 A24 n24 c24 y23.1, kO2 A25 n25 c25 y23.2, kO3 A22 n22 c22 ([y21] : List DValue), boxC B20 24 [.slice A10 n10 c10, .slice A19 n19 c19], kS1 A19 n19 c19 ([y11, y15] : List DCell), kS0 A16 n16 c16 y15.Slots, kS0 A17 n17 c17 y15.More, slC rDValue (.slice none 0 0) ([] : List DValue), kS0 A12 n12 c12 y11.Slots, kS0 A13 n13 c13 y11.More, slC rDValue (.slice none 0 0) ([] : List DValue), kS1 A10 n10 c10 ([y3, y6] : List DCell), kS0 A7 n7 c7 y6.Slots, kS0 A8 n8 c8 y6.More, slC rDValue (.slice none 0 0) ([] : List DValue), kS0 A4 n4 c4 y3.Slots, kS0 A5 n5 c5 y3.More, kS0 A2 n2 c2 ([y1] : List DValue)]) rfl ?_
  refine N_ev 11 rfl (by kernel_rfl) (ev_assign rfl) rfl rfl rfl ?_
  refine N_ev 12 rfl (by kernel_rfl) (ev_assign rfl) rfl rfl rfl ?_
  refine N_ev 13 rfl (by kernel_rfl) (ev_assign rfl) rfl rfl rfl ?_
  refine N_done (by kernel_rfl) ?_
  refine run ?_
  refine gE (ev_build rfl (bld_38_0 _)) ?_
  refine gD (op_bslice (R := rDValue) (vss := [[iV 1, iV 0, .string (⟨#[]⟩)]]) (xs := [(⟨1, 0, ⟨#[]⟩⟩ : DValue)]) rfl (bsl_25_1 _ _ _) rfl rfl (fun _ _ hr => .cons rfl All2.nil)) ?_
  rintro _ _ ⟨A56, n56, c56, rfl, rfl⟩
  obtain ⟨y57, hy57, h⟩ := bind_elim h
  refine gD (op_callR (w22_object_ok hy57) call77 rfl (mem_nil) w22_object_free) ?_
  rintro _ _ ⟨_, ⟨rfl, rfl⟩, rfl⟩
  obtain ⟨y58, hy58, h⟩ := bind_elim h
  refine gD (op_callR (w22_object_ok hy58) call77 rfl (mem_nil) w22_object_free) ?_
  rintro _ _ ⟨_, ⟨rfl, rfl⟩, rfl⟩
  obtain ⟨y59, hy59, h⟩ := bind_elim h
  refine gD (op_callR (w22_object_ok hy59) call77 rfl (mem_nil) w22_object_free) ?_
  rintro _ _ ⟨_, ⟨rfl, rfl⟩, rfl⟩
  refine gE (ev_build rfl (bld_38_)) ?_
  refine gE (ev_build rfl (bld_38_0_1 _ _)) ?_
  refine gD (op_bslice (R := rDValue) (vss := [[iV y57.Kind, iV y57.N, .string y57.S], [iV y58.Kind, iV y58.N, .string y58.S], [iV y59.Kind, iV y59.N, .string y59.S], [iV 0, iV 0, .string (⟨#[]⟩)], [iV 3, iV 7, .string (⟨#[]⟩)]]) (xs := [y57, y58, y59, (⟨0, 0, ⟨#[]⟩⟩ : DValue), (⟨3, 7, ⟨#[]⟩⟩ : DValue)]) rfl (bsl_25_5 _ _ _ _ _ _ _ _ _ _ _ _ _ _ _) rfl rfl (fun _ _ hr => .cons rfl (.cons rfl (.cons rfl (.cons rfl (.cons rfl All2.nil)))))) ?_
  rintro _ _ ⟨A60, n60, c60, rfl, rfl⟩
  refine gE (ev_build rfl (bld_32_0_4_5 _ _ _ _ _ _ _)) ?_
  refine run ?_
  obtain ⟨y61, hy61, h⟩ := bind_elim h
  refine G_cv (cv_nilS rDValue _) ?_
  refine gD (op_callc (w22_goes_c1_ok hy61) call76 rfl rfl rfl (cv_take [0] [] [0, 1, 2, 3, 4, 5, 6, 7, 8, 9, 10, 11, 12, 13, 14, 15, 16, 17, 18, 19, 20, 21, 22, 23, 24, 25] 26 rfl)) ?_
  rintro _ _ ⟨_, ⟨A62, n62, c62, A63, n63, c63, rfl, rfl⟩, rfl⟩
  refine G_norm ([kS0 A62 n62 c62 y61.Slots, kS0 A63 n63 c63 y61.More, slC rDValue (.slice none 0 0) ([] : List DValue), kO3 A60 n60 c60 ([y57, y58, y59, (⟨0, 0, ⟨#[]⟩⟩ : DValue), (⟨3, 7, ⟨#[]⟩⟩ : DValue)] : List DValue), kO3 A56 n56 c56 ([(⟨1, 0, ⟨#[]⟩⟩ : DValue)] : List DValue), kS1 A46 n46 c46 y29.1.Young, kS1 A47 n47 c47 y29.1.Old, kS0 A50 n50 c50 y29.2.1, kS0 A52 n52 c52 y29.2.2.1, boxC B55 24 [.slice A46 n46 c46, .slice A47 n47 c47], kO2 A24 n24 c24 y23.1, kO2 A25 n25 c25 y23.2, kO3 A22 n22 c22 ([y21] : List DValue), boxC B20 24 [.slice A10 n10 c10, .slice A19 n19 c19], kS1 A19 n19 c19 ([y11, y15] : List DCell), kS0 A16 n16 c16 y15.Slots, kS0 A17 n17 c17 y15.More, slC rDValue (.slice none 0 0) ([] : List DValue), kS0 A12 n12 c12 y11.Slots, kS0 A13 n13 c13 y11.More, slC rDValue (.slice none 0 0) ([] : List DValue), kS1 A10 n10 c10 ([y3, y6] : List DCell), kS0 A7 n7 c7 y6.Slots, kS0 A8 n8 c8 y6.More, slC rDValue (.slice none 0 0) ([] : List DValue), kS0 A4 n4 c4 y3.Slots, kS0 A5 n5 c5 y3.More, kS0 A2 n2 c2 ([y1] : List DValue)]) rfl ?_
  refine run ?_
  obtain ⟨y65, hy65, h⟩ := bind_elim h
  refine G_cv (cv_nilS rDValue _) ?_
  refine gD (op_callc (w22_goes_c1_ok hy65) call76 rfl rfl rfl (cv_take [0] [] [0, 1, 2, 3, 4, 5, 6, 7, 8, 9, 10, 11, 12, 13, 14, 15, 16, 17, 18, 19, 20, 21, 22, 23, 24, 25, 26, 27, 28] 29 rfl)) ?_
  rintro _ _ ⟨_, ⟨A66, n66, c66, A67, n67, c67, rfl, rfl⟩, rfl⟩
  refine G_norm ([kS0 A66 n66 c66 y65.Slots, kS0 A67 n67 c67 y65.More, slC rDValue (.slice none 0 0) ([] : List DValue), kS0 A62 n62 c62 y61.Slots, kS0 A63 n63 c63 y61.More, slC rDValue (.slice none 0 0) ([] : List DValue), kO3 A60 n60 c60 ([y57, y58, y59, (⟨0, 0, ⟨#[]⟩⟩ : DValue), (⟨3, 7, ⟨#[]⟩⟩ : DValue)] : List DValue), kO3 A56 n56 c56 ([(⟨1, 0, ⟨#[]⟩⟩ : DValue)] : List DValue), kS1 A46 n46 c46 y29.1.Young, kS1 A47 n47 c47 y29.1.Old, kS0 A50 n50 c50 y29.2.1, kS0 A52 n52 c52 y29.2.2.1, boxC B55 24 [.slice A46 n46 c46, .slice A47 n47 c47], kO2 A24 n24 c24 y23.1, kO2 A25 n25 c25 y23.2, kO3 A22 n22 c22 ([y21] : List DValue), boxC B20 24 [.slice A10 n10 c10, .slice A19 n19 c19], kS1 A19 n19 c19 ([y11, y15] : List DCell), kS0 A16 n16 c16 y15.Slots, kS0 A17 n17 c17 y15.More, slC rDValue (.slice none 0 0) ([] : List DValue), kS0 A12 n12 c12 y11.Slots, kS0 A13 n13 c13 y11.More, slC rDValue (.slice none 0 0) ([] : List DValue), kS1 A10 n10 c10 ([y3, y6] : List DCell), kS0 A7 n7 c7 y6.Slots, kS0 A8 n8 c8 y6.More, slC rDValue (.slice none 0 0) ([] : List DValue), kS0 A4 n4 c4 y3.Slots, kS0 A5 n5 c5 y3.More, kS0 A2 n2 c2 ([y1] : List DValue)]) rfl ?_
  refine run ?_
  obtain ⟨y69, hy69, h⟩ := bind_elim h
  refine G_cv (cv_nilS rDValue _) ?_
  refine gD (op_callc (w22_goes_c1_ok hy69) call76 rfl rfl rfl (cv_take [0] [] [0, 1, 2, 3, 4, 5, 6, 7, 8, 9, 10, 11, 12, 13, 14, 15, 16, 17, 18, 19, 20, 21, 22, 23, 24, 25, 26, 27, 28, 29, 30, 31] 32 rfl)) ?_
  rintro _ _ ⟨_, ⟨A70, n70, c70, A71, n71, c71, rfl, rfl⟩, rfl⟩
  refine G_norm ([kS0 A70 n70 c70 y69.Slots, kS0 A71 n71 c71 y69.More, slC rDValue (.slice none 0 0) ([] : List DValue), kS0 A66 n66 c66 y65.Slots, kS0 A67 n67 c67 y65.More, slC rDValue (.slice none 0 0) ([] : List DValue), kS0 A62 n62 c62 y61.Slots, kS0 A63 n63 c63 y61.More, slC rDValue (.slice none 0 0) ([] : List DValue), kO3 A60 n60 c60 ([y57, y58, y59, (⟨0, 0, ⟨#[]⟩⟩ : DValue), (⟨3, 7, ⟨#[]⟩⟩ : DValue)] : List DValue), kO3 A56 n56 c56 ([(⟨1, 0, ⟨#[]⟩⟩ : DValue)] : List DValue), kS1 A46 n46 c46 y29.1.Young, kS1 A47 n47 c47 y29.1.Old, kS0 A50 n50 c50 y29.2.1, kS0 A52 n52 c52 y29.2.2.1, boxC B55 24 [.slice A46 n46 c46, .slice A47 n47 c47], kO2 A24 n24 c24 y23.1, kO2 A25 n25 c25 y23.2, kO3 A22 n22 c22 ([y21] : List DValue), boxC B20 24 [.slice A10 n10 c10, .slice A19 n19 c19], kS1 A19 n19 c19 ([y11, y15] : List DCell), kS0 A16 n16 c16 y15.Slots, kS0 A17 n17 c17 y15.More, slC rDValue (.slice none 0 0) ([] : List DValue), kS0 A12 n12 c12 y11.Slots, kS0 A13 n13 c13 y11.More, slC rDValue (.slice none 0 0) ([] : List DValue), kS1 A10 n10 c10 ([y3, y6] : List DCell), kS0 A7 n7 c7 y6.Slots, kS0 A8 n8 c8 y6.More, slC rDValue (.slice none 0 0) ([] : List DValue), kS0 A4 n4 c4 y3.Slots, kS0 A5 n5 c5 y3.More, kS0 A2 n2 c2 ([y1] : List DValue)]) rfl ?_
  refine G_cv (cv_frz 10 rfl) ?_
  refine G_norm ([kS0 A70 n70 c70 y69.Slots, kS0 A71 n71 c71 y69.More, slC rDValue (.slice none 0 0) ([] : List DValue), kS0 A66 n66 c66 y65.Slots, kS0 A67 n67 c67 y65.More, slC rDValue (.slice none 0 0) ([] : List DValue), kS0 A62 n62 c62 y61.Slots, kS0 A63 n63 c63 y61.More, slC rDValue (.slice none 0 0) ([] : List DValue), kO3 A60 n60 c60 ([y57, y58, y59, (⟨0, 0, ⟨#[]⟩⟩ : DValue), (⟨3, 7, ⟨#[]⟩⟩ : DValue)] : List DValue), kS0 A56 n56 c56 ([(⟨1, 0, ⟨#[]⟩⟩ : DValue)] : List DValue), kS1 A46 n46 c46 y29.1.Young, kS1 A47 n47 c47 y29.1.Old, kS0 A50 n50 c50 y29.2.1, kS0 A52 n52 c52 y29.2.2.1, boxC B55 24 [.slice A46 n46 c46, .slice A47 n47 c47], kO2 A24 n24 c24 y23.1, kO2 A25 n25 c25 y23.2, kO3 A22 n22 c22 ([y21] : List DValue), boxC B20 24 [.slice A10 n10 c10, .slice A19 n19 c19], kS1 A19 n19 c19 ([y11, y15] : List DCell), kS0 A16 n16 c16 y15.Slots, kS0 A17 n17 c17 y15.More, slC rDValue (.slice none 0 0) ([] : List DValue), kS0 A12 n12 c12 y11.Slots, kS0 A13 n13 c13 y11.More, slC rDValue (.slice none 0 0) ([] : List DValue), kS1 A10 n10 c10 ([y3, y6] : List DCell), kS0 A7 n7 c7 y6.Slots, kS0 A8 n8 c8 y6.More, slC rDValue (.slice none 0 0) ([] : List DValue), kS0 A4 n4 c4 y3.Slots, kS0 A5 n5 c5 y3.More, kS0 A2 n2 c2 ([y1] : List DValue)]) rfl ?_
  refine G_cv (cv_frz 9 rfl) ?_
  refine G_norm ([kS0 A70 n70 c70 y69.Slots, kS0 A71 n71 c71 y69.More, slC rDValue (.slice none 0 0) ([] : List DValue), kS0 A66 n66 c66 y65.Slots, kS0 A67 n67 c67 y65.More, slC rDValue (.slice none 0 0) ([] : List DValue), kS0 A62 n62 c62 y61.Slots, kS0 A63 n63 c63 y61.More, slC rDValue (.slice none 0 0) ([] : List DValue), kS0 A60 n60 c60 ([y57, y58, y59, (⟨0, 0, ⟨#[]⟩⟩ : DValue), (⟨3, 7, ⟨#[]⟩⟩ : DValue)] : List DValue), kS0 A56 n56 c56 ([(⟨1, 0, ⟨#[]⟩⟩ : DValue)] : List DValue), kS1 A46 n46 c46 y29.1.Young, kS1 A47 n47 c47 y29.1.Old, kS0 A50 n50 c50 y29.2.1, kS0 A52 n52 c52 y29.2.2.1, boxC B55 24 [.slice A46 n46 c46, .slice A47 n47 c47], kO2 A24 n24 c24 y23.1, kO2 A25 n25 c25 y23.2, kO3 A22 n22 c22 ([y21] : List DValue), boxC B20 24 [.slice A10 n10 c10, .slice A19 n19 c19], kS1 A19 n19 c19 ([y11, y15] : List DCell), kS0 A16 n16 c16 y15.Slots, kS0 A17 n17 c17 y15.More, slC rDValue (.slice none 0 0) ([] : List DValue), kS0 A12 n12 c12 y11.Slots, kS0 A13 n13 c13 y11.More, slC rDValue (.slice none 0 0) ([] : List DValue), kS1 A10 n10 c10 ([y3, y6] : List DCell), kS0 A7 n7 c7 y6.Slots, kS0 A8 n8 c8 y6.More, slC rDValue (.slice none 0 0) ([] : List DValue), kS0 A4 n4 c4 y3.Slots, kS0 A5 n5 c5 y3.More, kS0 A2 n2 c2 ([y1] : List DValue)]) rfl ?_
  refine gD (op_bslice (R := rDCell) (vss := [[iV 10, iV 0, iV 0, iV 0, .slice A56 n56 c56, .slice A60 n60 c60], [iV y61.Kind, iV y61.Shape, iV y61.Flags, iV y61.Age, .slice A62 n62 c62, .slice A63 n63 c63], [iV y65.Kind, iV y65.Shape, iV y65.Flags, iV y65.Age, .slice A66 n66 c66, .slice A67 n67 c67], [iV y69.Kind, iV y69.Shape, iV y69.Flags, iV y69.Age, .slice A70 n70 c70, .slice A71 n71 c71]]) (xs := [(⟨10, 0, 0, 0, ([(⟨1, 0, ⟨#[]⟩⟩ : DValue)] : List DValue), ([y57, y58, y59, (⟨0, 0, ⟨#[]⟩⟩ : DValue), (⟨3, 7, ⟨#[]⟩⟩ : DValue)] : List DValue)⟩ : DCell), y61, y65, y69]) rfl (bsl_22_4 _ _ _ _ _ _ _ _ _ _ _ _ _ _ _ _ _ _ _ _ _ _ _ _ _ _ _ _ _ _ _ _ _ _ _ _ _ _ _ _) rfl rfl (fun _ _ hr => .cons (⟨_, _, _, _, _, _, rfl, hr 10 _ rfl rfl, hr 9 _ rfl rfl⟩) (.cons (⟨_, _, _, _, _, _, rfl, hr 6 _ rfl rfl, hr 7 _ rfl rfl⟩) (.cons (⟨_, _, _, _, _, _, rfl, hr 3 _ rfl rfl, hr 4 _ rfl rfl⟩) (.cons (⟨_, _, _, _, _, _, rfl, hr 0 _ rfl rfl, hr 1 _ rfl rfl⟩) All2.nil))))) ?_
  rintro _ _ ⟨A73, n73, c73, rfl, rfl⟩
  refine gE (ev_build rfl (bld_24_1 _ _ _)) ?_
  refine gD (op_alloc zero24 rfl) ?_
  rintro _ _ ⟨B74, rfl, rfl⟩
  refine gO (op_store (us := [.slice none 0 0, .slice A73 n73 c73]) (cs' := [.slice none 0 0, .slice A73 n73 c73]) 0 rfl rfl rfl rfl size24 rfl rfl rfl) ?_
  rintro _ _ rfl
  refine G_norm ([boxC B74 24 [.slice none 0 0, .slice A73 n73 c73], kO4 A73 n73 c73 ([(⟨10, 0, 0, 0, ([(⟨1, 0, ⟨#[]⟩⟩ : DValue)] : List DValue), ([y57, y58, y59, (⟨0, 0, ⟨#[]⟩⟩ : DValue), (⟨3, 7, ⟨#[]⟩⟩ : DValue)] : List DValue)⟩ : DCell), y61, y65, y69] : List DCell), kS0 A70 n70 c70 y69.Slots, kS0 A71 n71 c71 y69.More, slC rDValue (.slice none 0 0) ([] : List DValue), kS0 A66 n66 c66 y65.Slots, kS0 A67 n67 c67 y65.More, slC rDValue (.slice none 0 0) ([] : List DValue), kS0 A62 n62 c62 y61.Slots, kS0 A63 n63 c63 y61.More, slC rDValue (.slice none 0 0) ([] : List DValue), kS0 A60 n60 c60 ([y57, y58, y59, (⟨0, 0, ⟨#[]⟩⟩ : DValue), (⟨3, 7, ⟨#[]⟩⟩ : DValue)] : List DValue), kS0 A56 n56 c56 ([(⟨1, 0, ⟨#[]⟩⟩ : DValue)] : List DValue), kS1 A46 n46 c46 y29.1.Young, kS1 A47 n47 c47 y29.1.Old, kS0 A50 n50 c50 y29.2.1, kS0 A52 n52 c52 y29.2.2.1, boxC B55 24 [.slice A46 n46 c46, .slice A47 n47 c47], kO2 A24 n24 c24 y23.1, kO2 A25 n25 c25 y23.2, kO3 A22 n22 c22 ([y21] : List DValue), boxC B20 24 [.slice A10 n10 c10, .slice A19 n19 c19], kS1 A19 n19 c19 ([y11, y15] : List DCell), kS0 A16 n16 c16 y15.Slots, kS0 A17 n17 c17 y15.More, slC rDValue (.slice none 0 0) ([] : List DValue), kS0 A12 n12 c12 y11.Slots, kS0 A13 n13 c13 y11.More, slC rDValue (.slice none 0 0) ([] : List DValue), kS1 A10 n10 c10 ([y3, y6] : List DCell), kS0 A7 n7 c7 y6.Slots, kS0 A8 n8 c8 y6.More, slC rDValue (.slice none 0 0) ([] : List DValue), kS0 A4 n4 c4 y3.Slots, kS0 A5 n5 c5 y3.More, kS0 A2 n2 c2 ([y1] : List DValue)]) rfl ?_
  refine run ?_
  refine G_seq ?_
  refine G_sub ?_ sub_refl (cv_frz 1 rfl)
  refine Wq_norm ([boxC B74 24 [.slice none 0 0, .slice A73 n73 c73], kS1 A73 n73 c73 ([(⟨10, 0, 0, 0, ([(⟨1, 0, ⟨#[]⟩⟩ : DValue)] : List DValue), ([y57, y58, y59, (⟨0, 0, ⟨#[]⟩⟩ : DValue), (⟨3, 7, ⟨#[]⟩⟩ : DValue)] : List DValue)⟩ : DCell), y61, y65, y69] : List DCell), kS0 A70 n70 c70 y69.Slots, kS0 A71 n71 c71 y69.More, slC rDValue (.slice none 0 0) ([] : List DValue), kS0 A66 n66 c66 y65.Slots, kS0 A67 n67 c67 y65.More, slC rDValue (.slice none 0 0) ([] : List DValue), kS0 A62 n62 c62 y61.Slots, kS0 A63 n63 c63 y61.More, slC rDValue (.slice none 0 0) ([] : List DValue), kS0 A60 n60 c60 ([y57, y58, y59, (⟨0, 0, ⟨#[]⟩⟩ : DValue), (⟨3, 7, ⟨#[]⟩⟩ : DValue)] : List DValue), kS0 A56 n56 c56 ([(⟨1, 0, ⟨#[]⟩⟩ : DValue)] : List DValue), kS1 A46 n46 c46 y29.1.Young, kS1 A47 n47 c47 y29.1.Old, kS0 A50 n50 c50 y29.2.1, kS0 A52 n52 c52 y29.2.2.1, boxC B55 24 [.slice A46 n46 c46, .slice A47 n47 c47], kO2 A24 n24 c24 y23.1, kO2 A25 n25 c25 y23.2, kO3 A22 n22 c22 ([y21] : List DValue), boxC B20 24 [.slice A10 n10 c10, .slice A19 n19 c19], kS1 A19 n19 c19 ([y11, y15] : List DCell), kS0 A16 n16 c16 y15.Slots, kS0 A17 n17 c17 y15.More, slC rDValue (.slice none 0 0) ([] : List DValue), kS0 A12 n12 c12 y11.Slots, kS0 A13 n13 c13 y11.More, slC rDValue (.slice none 0 0) ([] : List DValue), kS1 A10 n10 c10 ([y3, y6] : List DCell), kS0 A7 n7 c7 y6.Slots, kS0 A8 n8 c8 y6.More, slC rDValue (.slice none 0 0) ([] : List DValue), kS0 A4 n4 c4 y3.Slots, kS0 A5 n5 c5 y3.More, kS0 A2 n2 c2 ([y1] : List DValue)]) rfl ?_
  obtain ⟨y75, hy75, h⟩ := bind_elim h
  obtain ⟨y78, hy78, h⟩ := bind_elim h
  refine G_sub (t := [(0, .bool false), (3, .slice A24 n24 c24), (4, .slice A25 n25 c25), (5, pV B55 0), (6, .slice A50 n50 c50), (7, .slice A52 n52 c52), (8, iV y29.2.2.2), (9, pV B74 0)]) ?_ subT (cv_refl _)
  refine G_monoX (by kernel_rfl) 10 [6, 7, 8] [5, 6, 7, 8, 9] [61, 62, 63, 64, 60, 65, 66, 67, 68, 10] [[], [], [1], [0, 2], [3], [4], [4], [4], [4], []] [aV (.agg #[.slice none 0 0, .slice A73 n73 c73]),
 aV (.agg #[iV y75.Kind, iV y75.N, .string y75.S]),
 aX3 (fun (A77 : Option Addr) (n77 c77 : Nat) => .slice A77 n77 c77) (fun A77 n77 c77 => [kS0 A77 n77 c77 ([y75] : List DValue)]),
 aX12 (fun (A84 : Option Addr) (n84 c84 : Nat) (A85 : Option Addr) (n85 c85 : Nat) (A86 : Option Addr) (n86 c86 : Nat) (A87 : Option Addr) (n87 c87 : Nat) => .tuple #[.agg #[.slice A84 n84 c84, .slice A85 n85 c85], .slice A86 n86 c86, .slice A87 n87 c87, iV y78.2.2.2]) (fun A84 n84 c84 A85 n85 c85 A86 n86 c86 A87 n87 c87 => [kS1 A84 n84 c84 y78.1.Young, kS1 A85 n85 c85 y78.1.Old, kS0 A86 n86 c86 y78.2.1, kS0 A87 n87 c87 y78.2.2.1]),
 aX12 (fun (A88 : Option Addr) (n88 c88 : Nat) (A89 : Option Addr) (n89 c89 : Nat) (A90 : Option Addr) (n90 c90 : Nat) (A91 : Option Addr) (n91 c91 : Nat) => .tuple #[.agg #[.slice A88 n88 c88, .slice A89 n89 c89], .slice A90 n90 c90, .slice A91 n91 c91, iV y78.2.2.2]) (fun A88 n88 c88 A89 n89 c89 A90 n90 c90 A91 n91 c91 => [kS1 A88 n88 c88 y78.1.Young, kS1 A89 n89 c89 y78.1.Old, kS0 A90 n90 c90 y78.2.1, kS0 A91 n91 c91 y78.2.2.1]),
 aX6 (fun (A96 : Option Addr) (n96 c96 : Nat) (A97 : Option Addr) (n97 c97 : Nat) => .agg #[.slice A96 n96 c96, .slice A97 n97 c97]) (fun A96 n96 c96 A97 n97 c97 => [kS1 A96 n96 c96 y78.1.Young, kS1 A97 n97 c97 y78.1.Old]),
 aX3 (fun (A100 : Option Addr) (n100 c100 : Nat) => .slice A100 n100 c100) (fun A100 n100 c100 => [kS0 A100 n100 c100 y78.2.1]),
 aX3 (fun (A102 : Option Addr) (n102 c102 : Nat) => .slice A102 n102 c102) (fun A102 n102 c102 => [kS0 A102 n102 c102 y78.2.2.1]),
 aV (iV y78.2.2.2),
 aX1 (fun (B105 : Nat) => pV B105 0) (fun B105 => [boxC B105 24 [.slice none 0 0, .slice none 0 0]])] [] (cv_refl _) (qB_cons rfl (qB_cons rfl (qB_cons rfl qB_nil))) (by kernel_rfl) rfl rfl ?_ ?_ ?_
  ·refine qs_cons rfl ?_ ?_
   ·intro A88 n88 c88 A89 n89 c89 A90 n90 c90 A91 n91 c91
    exact QS_ev (ev_extract rfl rfl) rfl (cvp3 A90 n90 c90 ((cv_dup 2 rfl rfl).trans (cv_refl _)))
   refine qs_cons rfl ?_ ?_
   ·intro A88 n88 c88 A89 n89 c89 A90 n90 c90 A91 n91 c91
    exact QS_ev (ev_extract rfl rfl) rfl (cvp3 A91 n91 c91 ((cv_dup 3 rfl rfl).trans (cv_refl _)))
   refine qs_cons rfl ?_ ?_
   ·intro A88 n88 c88 A89 n89 c89 A90 n90 c90 A91 n91 c91
    exact QS_ev (ev_extract rfl rfl) rfl (cvpV rfl (cv_refl _))
   exact qs_nil
  ·refine steps_cons rfl ?_ ?_
   ·refine X_op (op_alloc zero24 rfl) rfl ?_
    rintro _ _ ⟨B104, rfl, rfl⟩
    exact cvp1 B104 (cv_refl _)
   refine steps_cons rfl ?_ ?_
   ·intro A88 n88 c88 A89 n89 c89 A90 n90 c90 A91 n91 c91
    exact X_ev (ev_extract rfl rfl) rfl (cvpV rfl (cv_refl _))
   refine steps_cons rfl ?_ ?_
   ·intro A88 n88 c88 A89 n89 c89 A90 n90 c90 A91 n91 c91
    exact X_ev (ev_extract rfl rfl) rfl (cvp3 A91 n91 c91 ((cv_dup 3 rfl rfl).trans (cv_refl _)))
   refine steps_cons rfl ?_ ?_
   ·intro A88 n88 c88 A89 n89 c89 A90 n90 c90 A91 n91 c91
    exact X_ev (ev_extract rfl rfl) rfl (cvp3 A90 n90 c90 ((cv_dup 2 rfl rfl).trans (cv_refl _)))
   refine steps_cons rfl ?_ ?_
   ·intro A88 n88 c88 A89 n89 c89 A90 n90 c90 A91 n91 c91
    exact X_ev (ev_extract rfl rfl) rfl (cvp6 A88 n88 c88 A89 n89 c89 ((cv_dup 0 rfl rfl).trans ((cv_dup 2 rfl rfl).trans (cv_sel [1, 0, 2, 3, 4, 5, 6, 7, 8, 9, 10, 11, 12, 13, 14, 15, 16, 17, 18, 19, 20, 21, 22, 23, 24, 25, 26, 27, 28, 29, 30, 31, 32, 33, 34, 35, 36, 37, 38, 39, 40, 41] 42 rfl rfl))))
   refine steps_cons rfl ?_ ?_
   ·intro A84 n84 c84 A85 n85 c85 A86 n86 c86 A87 n87 c87
    exact X_ev (ev_move rfl) rfl (cvp12 A84 n84 c84 A85 n85 c85 A86 n86 c86 A87 n87 c87 ((cv_dup 0 rfl rfl).trans ((cv_dup 2 rfl rfl).trans ((cv_dup 4 rfl rfl).trans ((cv_dup 6 rfl rfl).trans (cv_sel [3, 2, 1, 0, 4, 5, 6, 7, 8, 9, 10, 11, 12, 13, 14, 15, 16, 17, 18, 19, 20, 21, 22, 23, 24, 25, 26, 27, 28, 29, 30, 31, 32, 33, 34, 35, 36, 37, 38, 39, 40, 41, 42, 43] 44 rfl rfl))))))
   refine steps_cons rfl ?_ ?_
   ·intro A77 n77 c77
    refine X_cv (cv_nilS rDCell _) ?_
    refine X_op (op_call (major_Collect_ok hy78) call31 rfl (cv_take [0, 3, 1] [] [0, 1, 2, 3, 4, 5, 6, 7, 8, 9, 10, 11, 12, 13, 14, 15, 16, 17, 18, 19, 20, 21, 22, 23, 24, 25, 26, 27, 28, 29, 30, 31, 32, 33, 34, 35, 36, 37] 38 rfl)) rfl ?_
    rintro _ _ ⟨_, ⟨A79, n79, c79, A80, n80, c80, A81, n81, c81, A82, n82, c82, rfl, rfl⟩, rfl⟩
    exact cvp12 A79 n79 c79 A80 n80 c80 A81 n81 c81 A82 n82 c82 ((cv_frz 0 rfl).trans ((cv_frz 1 rfl).trans ((cv_frz 2 rfl).trans ((cv_frz 3 rfl).trans (cv_sel [0, 1, 2, 3, 5, 6, 7, 8, 9, 10, 11, 12, 13, 14, 15, 16, 17, 18, 19, 20, 21, 22, 23, 24, 25, 26, 27, 28, 29, 30, 31, 32, 33, 34, 35, 36, 37, 38, 39, 40, 41] 42 rfl rfl)))))
   refine steps_cons rfl ?_ ?_
   ·refine X_op (op_bslice (R := rDValue) (vss := [[iV y75.Kind, iV y75.N, .string y75.S]]) (xs := [y75]) rfl (bsl_25_1 _ _ _) rfl rfl (fun _ _ hr => .cons rfl All2.nil)) rfl ?_
    rintro _ _ ⟨A76, n76, c76, rfl, rfl⟩
    exact cvp3 A76 n76 c76 ((cv_frz 0 rfl).trans (cv_refl _))
   refine steps_cons rfl ?_ ?_
   ·refine X_op (op_callR (w22_object_ok hy75) call77 rfl (mem_nil) w22_object_free) rfl ?_
    rintro _ _ ⟨_, ⟨rfl, rfl⟩, rfl⟩
    exact cvpV rfl (cv_refl _)
   refine steps_cons rfl ?_ ?_
   ·exact X_rd (rd_boxS (us := [.slice none 0 0, .slice A73 n73 c73]) 0 rfl rfl agg24 rfl) rfl (cvpV rfl (cv_refl _))
   exact steps_nil
  ·intro A96 n96 c96 A97 n97 c97 A100 n100 c100 A102 n102 c102 B105
   refine N_sub (t := [(65, .agg #[.slice A96 n96 c96, .slice A97 n97 c97]), (66, .slice A100 n100 c100), (67, .slice A102 n102 c102), (68, iV y78.2.2.2), (10, pV B105 0), (0, .bool false), (3, .slice A24 n24 c24), (4, .slice A25 n25 c25), (5, pV B55 0), (6, .slice A50 n50 c50), (7, .slice A52 n52 c52), (8, iV y29.2.2.2), (9, pV B74 0)]) (L' := [kS1 A96 n96 c96 y78.1.Young, kS1 A97 n97 c97 y78.1.Old, kS0 A100 n100 c100 y78.2.1, kS0 A102 n102 c102 y78.2.2.1, boxC B105 24 [.slice none 0 0, .slice none 0 0], boxC B74 24 [.slice none 0 0, .slice A73 n73 c73], kS1 A73 n73 c73 ([(⟨10, 0, 0, 0, ([(⟨1, 0, ⟨#[]⟩⟩ : DValue)] : List DValue), ([y57, y58, y59, (⟨0, 0, ⟨#[]⟩⟩ : DValue), (⟨3, 7, ⟨#[]⟩⟩ : DValue)] : List DValue)⟩ : DCell), y61, y65, y69] : List DCell), kS0 A70 n70 c70 y69.Slots, kS0 A71 n71 c71 y69.More, slC rDValue (.slice none 0 0) ([] : List DValue), kS0 A66 n66 c66 y65.Slots, kS0 A67 n67 c67 y65.More, slC rDValue (.slice none 0 0) ([] : List DValue), kS0 A62 n62 c62 y61.Slots, kS0 A63 n63 c63 y61.More, slC rDValue (.slice none 0 0) ([] : List DValue), kS0 A60 n60 c60 ([y57, y58, y59, (⟨0, 0, ⟨#[]⟩⟩ : DValue), (⟨3, 7, ⟨#[]⟩⟩ : DValue)] : List DValue), kS0 A56 n56 c56 ([(⟨1, 0, ⟨#[]⟩⟩ : DValue)] : List DValue), kS1 A46 n46 c46 y29.1.Young, kS1 A47 n47 c47 y29.1.Old, kS0 A50 n50 c50 y29.2.1, kS0 A52 n52 c52 y29.2.2.1, boxC B55 24 [.slice A46 n46 c46, .slice A47 n47 c47], kO2 A24 n24 c24 y23.1, kO2 A25 n25 c25 y23.2, kO3 A22 n22 c22 ([y21] : List DValue), boxC B20 24 [.slice A10 n10 c10, .slice A19 n19 c19], kS1 A19 n19 c19 ([y11, y15] : List DCell), kS0 A16 n16 c16 y15.Slots, kS0 A17 n17 c17 y15.More, slC rDValue (.slice none 0 0) ([] : List DValue), kS0 A12 n12 c12 y11.Slots, kS0 A13 n13 c13 y11.More, slC rDValue (.slice none 0 0) ([] : List DValue), kS1 A10 n10 c10 ([y3, y6] : List DCell), kS0 A7 n7 c7 y6.Slots, kS0 A8 n8 c8 y6.More, slC rDValue (.slice none 0 0) ([] : List DValue), kS0 A4 n4 c4 y3.Slots, kS0 A5 n5 c5 y3.More, kS0 A2 n2 c2 ([y1] : List DValue)]) ?_ subT (cv_refl _)
   refine N_opn 10 rfl (by kernel_rfl) (op_store (us := [.slice A96 n96 c96, .slice A97 n97 c97]) (cs' := [.slice A96 n96 c96, .slice A97 n97 c97]) 4 rfl rfl rfl rfl size24 rfl rfl rfl) rfl rfl ?_
   rintro _ _ rfl
   refine N_norm ([kS1 A96 n96 c96 y78.1.Young, kS1 A97 n97 c97 y78.1.Old, kS0 A100 n100 c100 y78.2.1, kS0 A102 n102 c102 y78.2.2.1, boxC B105 24 [.slice A96 n96 c96, .slice A97 n97 c97], boxC B74 24 [.slice none 0 0, .slice A73 n73 c73], kS1 A73 n73 c73 ([(⟨10, 0, 0, 0, ([(⟨1, 0, ⟨#[]⟩⟩ : DValue)] : List DValue), ([y57, y58, y59, (⟨0, 0, ⟨#[]⟩⟩ : DValue), (⟨3, 7, ⟨#[]⟩⟩ : DValue)] : List DValue)⟩ : DCell), y61, y65, y69] : List DCell), kS0 A70 n70 c70 y69.Slots, kS0 A71 n71 c71 y69.More, slC rDValue (.slice none 0 0) ([] : List DValue), kS0 A66 n66 c66 y65.Slots, kS0 A67 n67 c67 y65.More, slC rDValue (.slice none 0 0) ([] : List DValue), kS0 A62 n62 c62 y61.Slots, kS0 A63 n63 c63 y61.More, slC rDValue (.slice none 0 0) ([] : List DValue), kS0 A60 n60 c60 ([y57, y58, y59, (⟨0, 0, ⟨#[]⟩⟩ : DValue), (⟨3, 7, ⟨#[]⟩⟩ : DValue)] : List DValue), kS0 A56 n56 c56 ([(⟨1, 0, ⟨#[]⟩⟩ : DValue)] : List DValue), kS1 A46 n46 c46 y29.1.Young, kS1 A47 n47 c47 y29.1.Old, kS0 A50 n50 c50 y29.2.1, kS0 A52 n52 c52 y29.2.2.1, boxC B55 24 [.slice A46 n46 c46, .slice A47 n47 c47], kO2 A24 n24 c24 y23.1, kO2 A25 n25 c25 y23.2, kO3 A22 n22 c22 ([y21] : List DValue), boxC B20 24 [.slice A10 n10 c10, .slice A19 n19 c19], kS1 A19 n19 c19 ([y11, y15] : List DCell), kS0 A16 n16 c16 y15.Slots, kS0 A17 n17 c17 y15.More, slC rDValue (.slice none 0 0) ([] : List DValue), kS0 A12 n12 c12 y11.Slots, kS0 A13 n13 c13 y11.More, slC rDValue (.slice none 0 0) ([] : List DValue), kS1 A10 n10 c10 ([y3, y6] : List DCell), kS0 A7 n7 c7 y6.Slots, kS0 A8 n8 c8 y6.More, slC rDValue (.slice none 0 0) ([] : List DValue), kS0 A4 n4 c4 y3.Slots, kS0 A5 n5 c5 y3.More, kS0 A2 n2 c2 ([y1] : List DValue)]) rfl ?_
   refine N_ev 11 rfl (by kernel_rfl) (ev_assign rfl) rfl rfl rfl ?_
   refine N_ev 12 rfl (by kernel_rfl) (ev_assign rfl) rfl rfl rfl ?_
   refine N_ev 13 rfl (by kernel_rfl) (ev_assign rfl) rfl rfl rfl ?_
   refine N_done (by kernel_rfl) ?_
   refine nx_n ?_
   refine G_seq ?_
   obtain ⟨y108, hy108, h⟩ := bind_elim h
   obtain ⟨b109, hb109, h⟩ := bind_elim h
   obtain ⟨c109, hc109⟩ : ∃ c, y108 = c := ⟨_, rfl⟩
   obtain ⟨y112, hs109⟩ : ∃ (y112 : (Bool)), c109 = true → ((r19_Same_O N y23.2 ([2, 4] : List Int)) = some y112 ∧ y112 = b109) := by
    cases c109
    ·exact ⟨default, fun e => by cases e⟩
    ·replace hb109 := cond_t hc109 hb109
     obtain ⟨y112, hy112, hb109⟩ := bind_elim hb109
     exact ⟨y112, fun _ => ⟨hy112, Option.some.inj hb109⟩⟩
   have ho109 : c109 = false → b109 = false := fun e => (Option.some.inj (cond_f (hc109.trans e) hb109)).symm
   obtain ⟨b113, hb113, h⟩ := bind_elim h
   obtain ⟨c113, hc113⟩ : ∃ c, b109 = c := ⟨_, rfl⟩
   obtain hs113 : c113 = true → ((decide (y29.2.2.2 = 0)) = b113) := by
    cases c113
    ·exact fun e => by cases e
    ·replace hb113 := cond_t hc113 hb113
     exact fun _ => Option.some.inj hb113
   have ho113 : c113 = false → b113 = false := fun e => (Option.some.inj (cond_f (hc113.trans e) hb113)).symm
   obtain ⟨b114, hb114, h⟩ := bind_elim h
   obtain ⟨c114, hc114⟩ : ∃ c, b113 = c := ⟨_, rfl⟩
   obtain hs114 : c114 = true → ((decide ((y29.1.Old.length : Int) = 2)) = b114) := by
    cases c114
    ·exact fun e => by cases e
    ·replace hb114 := cond_t hc114 hb114
     exact fun _ => Option.some.inj hb114
   have ho114 : c114 = false → b114 = false := fun e => (Option.some.inj (cond_f (hc114.trans e) hb114)).symm
   obtain ⟨b115, hb115, h⟩ := bind_elim h
   obtain ⟨c115, hc115⟩ : ∃ c, b114 = c := ⟨_, rfl⟩
   obtain hs115 : c115 = true → ((decide ((y29.1.Young.length : Int) = 0)) = b115) := by
    cases c115
    ·exact fun e => by cases e
    ·replace hb115 := cond_t hc115 hb115
     exact fun _ => Option.some.inj hb115
   have ho115 : c115 = false → b115 = false := fun e => (Option.some.inj (cond_f (hc115.trans e) hb115)).symm
   obtain ⟨b116, hb116, h⟩ := bind_elim h
   obtain ⟨c116, hc116⟩ : ∃ c, b115 = c := ⟨_, rfl⟩
   obtain ⟨x117, hs116⟩ : ∃ (x117 : DCell), c116 = true → ((getE y29.1.Old 1) = some x117 ∧ (decide ((x117.More.length : Int) = 1)) = b116) := by
    cases c116
    ·exact ⟨default, fun e => by cases e⟩
    ·replace hb116 := cond_t hc116 hb116
     obtain ⟨x117, hx117, hb116⟩ := bind_elim hb116
     exact ⟨x117, fun _ => ⟨hx117, Option.some.inj hb116⟩⟩
   have ho116 : c116 = false → b116 = false := fun e => (Option.some.inj (cond_f (hc116.trans e) hb116)).symm
   obtain ⟨b122, hb122, h⟩ := bind_elim h
   obtain ⟨c122, hc122⟩ : ∃ c, b116 = c := ⟨_, rfl⟩
   obtain ⟨x123, x128, y131, hs122⟩ : ∃ (x123 : DCell) (x128 : DValue) (y131 : (DValue)), c122 = true → ((getE y29.1.Old 1) = some x123 ∧ (getE x123.More 0) = some x128 ∧ (w22_object_O N 2) = some y131 ∧ (decide (x128 = y131)) = b122) := by
    cases c122
    ·exact ⟨default, default, default, fun e => by cases e⟩
    ·replace hb122 := cond_t hc122 hb122
     obtain ⟨x123, hx123, hb122⟩ := bind_elim hb122
     obtain ⟨x128, hx128, hb122⟩ := bind_elim hb122
     obtain ⟨y131, hy131, hb122⟩ := bind_elim hb122
     exact ⟨x123, x128, y131, fun _ => ⟨hx123, hx128, hy131, Option.some.inj hb122⟩⟩
   have ho122 : c122 = false → b122 = false := fun e => (Option.some.inj (cond_f (hc122.trans e) hb122)).symm
   obtain ⟨b132, hb132, h⟩ := bind_elim h
   obtain ⟨c132, hc132⟩ : ∃ c, b122 = c := ⟨_, rfl⟩
   obtain hs132 : c132 = true → ((decide ((y29.2.1.length : Int) = 1)) = b132) := by
    cases c132
    ·exact fun e => by cases e
    ·replace hb132 := cond_t hc132 hb132
     exact fun _ => Option.some.inj hb132
   have ho132 : c132 = false → b132 = false := fun e => (Option.some.inj (cond_f (hc132.trans e) hb132)).symm
   obtain ⟨b133, hb133, h⟩ := bind_elim h
   obtain ⟨c133, hc133⟩ : ∃ c, b132 = c := ⟨_, rfl⟩
   obtain ⟨x134, y135, hs133⟩ : ∃ (x134 : DValue) (y135 : (DValue)), c133 = true → ((getE y29.2.1 0) = some x134 ∧ (w22_object_O N 4) = some y135 ∧ (decide (x134 = y135)) = b133) := by
    cases c133
    ·exact ⟨default, default, fun e => by cases e⟩
    ·replace hb133 := cond_t hc133 hb133
     obtain ⟨x134, hx134, hb133⟩ := bind_elim hb133
     obtain ⟨y135, hy135, hb133⟩ := bind_elim hb133
     exact ⟨x134, y135, fun _ => ⟨hx134, hy135, Option.some.inj hb133⟩⟩
   have ho133 : c133 = false → b133 = false := fun e => (Option.some.inj (cond_f (hc133.trans e) hb133)).symm
   obtain ⟨b136, hb136, h⟩ := bind_elim h
   obtain ⟨c136, hc136⟩ : ∃ c, b133 = c := ⟨_, rfl⟩
   obtain hs136 : c136 = true → ((decide ((y29.2.2.1.length : Int) = 0)) = b136) := by
    cases c136
    ·exact fun e => by cases e
    ·replace hb136 := cond_t hc136 hb136
     exact fun _ => Option.some.inj hb136
   have ho136 : c136 = false → b136 = false := fun e => (Option.some.inj (cond_f (hc136.trans e) hb136)).symm
   obtain ⟨b137, hb137, h⟩ := bind_elim h
   obtain ⟨c137, hc137⟩ : ∃ c, b136 = c := ⟨_, rfl⟩
   obtain hs137 : c137 = true → ((decide (y78.2.2.2 = 0)) = b137) := by
    cases c137
    ·exact fun e => by cases e
    ·replace hb137 := cond_t hc137 hb137
     exact fun _ => Option.some.inj hb137
   have ho137 : c137 = false → b137 = false := fun e => (Option.some.inj (cond_f (hc137.trans e) hb137)).symm
   obtain ⟨b138, hb138, h⟩ := bind_elim h
   obtain ⟨c138, hc138⟩ : ∃ c, b137 = c := ⟨_, rfl⟩
   obtain hs138 : c138 = true → ((decide ((y78.1.Old.length : Int) = 3)) = b138) := by
    cases c138
    ·exact fun e => by cases e
    ·replace hb138 := cond_t hc138 hb138
     exact fun _ => Option.some.inj hb138
   have ho138 : c138 = false → b138 = false := fun e => (Option.some.inj (cond_f (hc138.trans e) hb138)).symm
   obtain ⟨b139, hb139, h⟩ := bind_elim h
   obtain ⟨c139, hc139⟩ : ∃ c, b138 = c := ⟨_, rfl⟩
   obtain ⟨y140, y141, y144, hs139⟩ : ∃ (y140 : (DValue)) (y141 : (DValue)) (y144 : (Bool)), c139 = true → ((w22_object_O N 4) = some y140 ∧ (w22_object_O N 6) = some y141 ∧ (r15_SameValues_O N y78.2.2.1 ([y140, y141, (⟨3, 7, ⟨#[]⟩⟩ : DValue)] : List DValue)) = some y144 ∧ y144 = b139) := by
    cases c139
    ·exact ⟨default, default, default, fun e => by cases e⟩
    ·replace hb139 := cond_t hc139 hb139
     obtain ⟨y140, hy140, hb139⟩ := bind_elim hb139
     obtain ⟨y141, hy141, hb139⟩ := bind_elim hb139
     obtain ⟨y144, hy144, hb139⟩ := bind_elim hb139
     exact ⟨y140, y141, y144, fun _ => ⟨hy140, hy141, hy144, Option.some.inj hb139⟩⟩
   have ho139 : c139 = false → b139 = false := fun e => (Option.some.inj (cond_f (hc139.trans e) hb139)).symm
   refine G_sub (t := [(0, .bool false), (3, .slice A24 n24 c24), (4, .slice A25 n25 c25), (5, pV B55 0), (6, .slice A50 n50 c50), (7, .slice A52 n52 c52), (8, iV y29.2.2.2), (10, pV B105 0), (12, .slice A102 n102 c102), (13, iV y78.2.2.2)]) ?_ subT (cv_refl _)
   refine G_monoX (by kernel_rfl) 79 [] [78] (69 :: 70 :: 71 :: 72 :: 73 :: 74 :: 75 :: 76 :: 77 :: 78 :: 79 :: 80 :: 81 :: 82 :: 83 :: 84 :: 85 :: 86 :: 87 :: 88 :: 89 :: 90 :: 91 :: 92 :: 93 :: 94 :: 95 :: 96 :: 97 :: 98 :: 99 :: 100 :: 101 :: 102 :: 103 :: 104 :: 105 :: 106 :: 107 :: 108 :: 109 :: 110 :: 111 :: 112 :: 113 :: 114 :: 115 :: 116 :: 117 :: 118 :: 119 :: 120 :: 121 :: 122 :: 123 :: 124 :: 125 :: 126 :: 127 :: 128 :: 129 :: 130 :: 131 :: 132 :: 133 :: 134 :: 135 :: 136 :: 137 :: 138 :: 139 :: 140 :: 141 :: 142 :: 143 :: 144 :: 145 :: 146 :: 147 :: ([] : List Nat)) ([] :: [] :: [0, 1] :: [2] :: [3] :: [3] :: [3, 4, 5] :: [3, 6] :: [7] :: [8] :: [8, 9] :: [8, 10] :: [11] :: [12] :: [12, 13] :: [12, 14] :: [12, 15] :: [12, 16] :: [17] :: [18] :: [18, 19] :: [18, 20] :: [18, 21] :: [18, 22] :: [23] :: [24] :: [24, 25] :: [24, 26] :: [24, 27] :: [24, 28] :: [24, 29] :: [24, 30] :: [24, 31] :: [32] :: [33] :: [33, 34] :: [33, 35] :: [33, 36] :: [33, 37] :: [33, 38] :: [33, 39] :: [33] :: [33, 40, 41] :: [33, 42] :: [43] :: [44] :: [44, 45] :: [44, 46] :: [44, 47] :: [48] :: [49] :: [49, 50] :: [49, 51] :: [49] :: [49, 52, 53] :: [49, 54] :: [55] :: [56] :: [56, 57] :: [56, 58] :: [56, 59] :: [60] :: [61] :: [61, 62] :: [61, 63] :: [64] :: [65] :: [65, 66] :: [65, 67] :: [65, 68] :: [65, 69] :: [70] :: [71] :: [71] :: [71] :: [71] :: [71, 73, 74, 75] :: [71, 72, 76] :: [71, 77] :: ([] : List (List Nat))) ((aV (.slice A24 n24 c24)) :: (aX3 (fun (A107 : Option Addr) (n107 c107 : Nat) => .slice A107 n107 c107) (fun A107 n107 c107 => [kO2 A107 n107 c107 ([2, 1] : List Int)])) :: (aV (.bool y108)) :: (aV (.bool y108)) :: (bif c109 then aV (.slice A25 n25 c25) else aV undef) :: (bif c109 then aX3 (fun (A111 : Option Addr) (n111 c111 : Nat) => .slice A111 n111 c111) (fun A111 n111 c111 => [kO2 A111 n111 c111 ([2, 4] : List Int)]) else aV undef) :: (bif c109 then aV (.bool y112) else aV undef) :: (aV (.bool b109)) :: (aV (.bool b109)) :: (bif c113 then aV (iV y29.2.2.2) else aV undef) :: (bif c113 then aV (.bool (decide (y29.2.2.2 = 0))) else aV undef) :: (aV (.bool b113)) :: (aV (.bool b113)) :: (bif c114 then aV (pV B55 1) else aV undef) :: (bif c114 then aV (.slice A47 n47 c47) else aV undef) :: (bif c114 then aV (iV (y29.1.Old.length : Int)) else aV undef) :: (bif c114 then aV (.bool (decide ((y29.1.Old.length : Int) = 2))) else aV undef) :: (aV (.bool b114)) :: (aV (.bool b114)) :: (bif c115 then aV (pV B55 0) else aV undef) :: (bif c115 then aV (.slice A46 n46 c46) else aV undef) :: (bif c115 then aV (iV (y29.1.Young.length : Int)) else aV undef) :: (bif c115 then aV (.bool (decide ((y29.1.Young.length : Int) = 0))) else aV undef) :: (aV (.bool b115)) :: (aV (.bool b115)) :: (bif c116 then aV (pV B55 1) else aV undef) :: (bif c116 then aV (.slice A47 n47 c47) else aV undef) :: (bif c116 then aV (elemQ (.slice A47 n47 c47) ((1 : Int).toNat) 6 0) else aV undef) :: (bif c116 then aV (elemQ (.slice A47 n47 c47) ((1 : Int).toNat) 6 5) else aV undef) :: (bif c116 then aX3 (fun (A121 : Option Addr) (n121 c121 : Nat) => .slice A121 n121 c121) (fun A121 n121 c121 => [kS0 A121 n121 c121 x117.More]) else aV undef) :: (bif c116 then aV (iV (x117.More.length : Int)) else aV undef) :: (bif c116 then aV (.bool (decide ((x117.More.length : Int) = 1))) else aV undef) :: (aV (.bool b116)) :: (aV (.bool b116)) :: (bif c122 then aV (pV B55 1) else aV undef) :: (bif c122 then aV (.slice A47 n47 c47) else aV undef) :: (bif c122 then aV (elemQ (.slice A47 n47 c47) ((1 : Int).toNat) 6 0) else aV undef) :: (bif c122 then aV (elemQ (.slice A47 n47 c47) ((1 : Int).toNat) 6 5) else aV undef) :: (bif c122 then aX3 (fun (A127 : Option Addr) (n127 c127 : Nat) => .slice A127 n127 c127) (fun A127 n127 c127 => [kS0 A127 n127 c127 x123.More]) else aV undef) :: (bif c122 then aX3 (fun (A129 : Option Addr) (n129 c129 : Nat) => elemQ (.slice A129 n129 c129) ((0 : Int).toNat) 3 0) (fun A129 n129 c129 => [kS0 A129 n129 c129 x123.More]) else aV undef) :: (bif c122 then aV (.agg #[iV x128.Kind, iV x128.N, .string x128.S]) else aV undef) :: (bif c122 then aV (.agg #[iV y131.Kind, iV y131.N, .string y131.S]) else aV undef) :: (bif c122 then aV (.bool (decide (x128 = y131))) else aV undef) :: (aV (.bool b122)) :: (aV (.bool b122)) :: (bif c132 then aV (.slice A50 n50 c50) else aV undef) :: (bif c132 then aV (iV (y29.2.1.length : Int)) else aV undef) :: (bif c132 then aV (.bool (decide ((y29.2.1.length : Int) = 1))) else aV undef) :: (aV (.bool b132)) :: (aV (.bool b132)) :: (bif c133 then aV (.slice A50 n50 c50) else aV undef) :: (bif c133 then aV (elemQ (.slice A50 n50 c50) ((0 : Int).toNat) 3 0) else aV undef) :: (bif c133 then aV (.agg #[iV x134.Kind, iV x134.N, .string x134.S]) else aV undef) :: (bif c133 then aV (.agg #[iV y135.Kind, iV y135.N, .string y135.S]) else aV undef) :: (bif c133 then aV (.bool (decide (x134 = y135))) else aV undef) :: (aV (.bool b133)) :: (aV (.bool b133)) :: (bif c136 then aV (.slice A52 n52 c52) else aV undef) :: (bif c136 then aV (iV (y29.2.2.1.length : Int)) else aV undef) :: (bif c136 then aV (.bool (decide ((y29.2.2.1.length : Int) = 0))) else aV undef) :: (aV (.bool b136)) :: (aV (.bool b136)) :: (bif c137 then aV (iV y78.2.2.2) else aV undef) :: (bif c137 then aV (.bool (decide (y78.2.2.2 = 0))) else aV undef) :: (aV (.bool b137)) :: (aV (.bool b137)) :: (bif c138 then aV (pV B105 1) else aV undef) :: (bif c138 then aV (.slice A97 n97 c97) else aV undef) :: (bif c138 then aV (iV (y78.1.Old.length : Int)) else aV undef) :: (bif c138 then aV (.bool (decide ((y78.1.Old.length : Int) = 3))) else aV undef) :: (aV (.bool b138)) :: (aV (.bool b138)) :: (bif c139 then aV (.slice A102 n102 c102) else aV undef) :: (bif c139 then aV (.agg #[iV y140.Kind, iV y140.N, .string y140.S]) else aV undef) :: (bif c139 then aV (.agg #[iV y141.Kind, iV y141.N, .string y141.S]) else aV undef) :: (bif c139 then aV (.agg #[iV 3, iV 7, .string (⟨#[]⟩)]) else aV undef) :: (bif c139 then aX3 (fun (A143 : Option Addr) (n143 c143 : Nat) => .slice A143 n143 c143) (fun A143 n143 c143 => [kO3 A143 n143 c143 ([y140, y141, (⟨3, 7, ⟨#[]⟩⟩ : DValue)] : List DValue)]) else aV undef) :: (bif c139 then aV (.bool y144) else aV undef) :: (aV (.bool b139)) :: ([] : List Asn)) [] (cv_refl _) (qB_nil) (by kernel_rfl) rfl rfl ?_ ?_ ?_
   ·exact qs_nil
   ·refine steps_cons rfl ?_ ?_
    ·cases c139
     ·exact X_ev (ev_pick_f' hc139 rfl rfl) rfl (cvpV (by rw [ho139 rfl]) (cv_refl _))
     ·obtain ⟨hy140, hy141, hy144, hv139⟩ := hs139 rfl
      exact X_ev (ev_pick_t' hc139 rfl rfl) rfl (cvpV (by rw [hv139]) (cv_refl _))
    refine steps_cons rfl ?_ ?_
    ·cases c139
     ·exact X_no (g_tf hc139 rfl) (cvpV rfl (cv_refl _))
     ·obtain ⟨hy140, hy141, hy144, hv139⟩ := hs139 rfl
      intro A143 n143 c143
      refine X_op (op_callR (r15_SameValues_ok hy144) call35 rfl (mem_cons (lent_ro (i := 4) rfl rfl) (mem_cons (lent_own (i := 0) rfl) mem_nil)) r15_SameValues_free) (g_tt hc139 rfl) ?_
      rintro _ _ ⟨_, ⟨rfl, rfl⟩, rfl⟩
      exact cvpV rfl (cv_refl _)
    refine steps_cons rfl ?_ ?_
    ·cases c139
     ·exact X_no (g_tf hc139 rfl) (cvpV rfl (cv_refl _))
     ·obtain ⟨hy140, hy141, hy144, hv139⟩ := hs139 rfl
      refine X_op (op_bslice (R := rDValue) (vss := [[iV y140.Kind, iV y140.N, .string y140.S], [iV y141.Kind, iV y141.N, .string y141.S], [iV 3, iV 7, .string (⟨#[]⟩)]]) (xs := [y140, y141, (⟨3, 7, ⟨#[]⟩⟩ : DValue)]) rfl (bsl_25_3 _ _ _ _ _ _ _ _ _) rfl rfl (fun _ _ hr => .cons rfl (.cons rfl (.cons rfl All2.nil)))) (g_tt hc139 rfl) ?_
      rintro _ _ ⟨A142, n142, c142, rfl, rfl⟩
      exact cvp3 A142 n142 c142 (cv_refl _)
    refine steps_cons rfl ?_ ?_
    ·cases c139
     ·exact X_no (g_tf hc139 rfl) (cvpV rfl (cv_refl _))
     ·obtain ⟨hy140, hy141, hy144, hv139⟩ := hs139 rfl
      exact X_ev (ev_build rfl (bld_38_0_1 _ _)) (g_tt hc139 rfl) (cvpV rfl (cv_refl _))
    refine steps_cons rfl ?_ ?_
    ·cases c139
     ·exact X_no (g_tf hc139 rfl) (cvpV rfl (cv_refl _))
     ·obtain ⟨hy140, hy141, hy144, hv139⟩ := hs139 rfl
      refine X_op (op_callR (w22_object_ok hy141) call77 rfl (mem_nil) w22_object_free) (g_tt hc139 rfl) ?_
      rintro _ _ ⟨_, ⟨rfl, rfl⟩, rfl⟩
      exact cvpV rfl (cv_refl _)
    refine steps_cons rfl ?_ ?_
    ·cases c139
     ·exact X_no (g_tf hc139 rfl) (cvpV rfl (cv_refl _))
     ·obtain ⟨hy140, hy141, hy144, hv139⟩ := hs139 rfl
      refine X_op (op_callR (w22_object_ok hy140) call77 rfl (mem_nil) w22_object_free) (g_tt hc139 rfl) ?_
      rintro _ _ ⟨_, ⟨rfl, rfl⟩, rfl⟩
      exact cvpV rfl (cv_refl _)
    refine steps_cons rfl ?_ ?_
    ·cases c139
     ·exact X_no (g_tf hc139 rfl) (cvpV rfl (cv_refl _))
     ·obtain ⟨hy140, hy141, hy144, hv139⟩ := hs139 rfl
      exact X_ev (ev_move rfl) (g_tt hc139 rfl) (cvpV rfl (cv_refl _))
    refine steps_cons rfl ?_ ?_
    ·exact X_ev (ev_move rfl) rfl (cvpV rfl (cv_refl _))
    refine steps_cons rfl ?_ ?_
    ·cases c138
     ·exact X_ev (ev_pick_f' hc138 rfl rfl) rfl (cvpV (by rw [ho138 rfl]) (cv_refl _))
     ·have hv138 := hs138 rfl
      exact X_ev (ev_pick_t' hc138 rfl rfl) rfl (cvpV (by rw [hv138]) (cv_refl _))
    refine steps_cons rfl ?_ ?_
    ·cases c138
     ·exact X_no (g_tf hc138 rfl) (cvpV rfl (cv_refl _))
     ·have hv138 := hs138 rfl
      exact X_ev (ev_eq rfl rfl) (g_tt hc138 rfl) (cvpV rfl (cv_refl _))
    refine steps_cons rfl ?_ ?_
    ·cases c138
     ·exact X_no (g_tf hc138 rfl) (cvpV rfl (cv_refl _))
     ·have hv138 := hs138 rfl
      exact X_rd (rd_len 1 rfl els_sl rfl Tryz.underlying22) (g_tt hc138 rfl) (cvpV rfl (cv_refl _))
    refine steps_cons rfl ?_ ?_
    ·cases c138
     ·exact X_no (g_tf hc138 rfl) (cvpV rfl (cv_refl _))
     ·have hv138 := hs138 rfl
      exact X_rd (rd_box1 4 rfl rfl one22 rfl) (g_tt hc138 rfl) (cvpV rfl (cv_refl _))
    refine steps_cons rfl ?_ ?_
    ·cases c138
     ·exact X_no (g_tf hc138 rfl) (cvpV rfl (cv_refl _))
     ·have hv138 := hs138 rfl
      exact X_ev (ev_fa rfl fa_24_1) (g_tt hc138 rfl) (cvpV rfl (cv_refl _))
    refine steps_cons rfl ?_ ?_
    ·exact X_ev (ev_move rfl) rfl (cvpV rfl (cv_refl _))
    refine steps_cons rfl ?_ ?_
    ·cases c137
     ·exact X_ev (ev_pick_f' hc137 rfl rfl) rfl (cvpV (by rw [ho137 rfl]) (cv_refl _))
     ·have hv137 := hs137 rfl
      exact X_ev (ev_pick_t' hc137 rfl rfl) rfl (cvpV (by rw [hv137]) (cv_refl _))
    refine steps_cons rfl ?_ ?_
    ·cases c137
     ·exact X_no (g_tf hc137 rfl) (cvpV rfl (cv_refl _))
     ·have hv137 := hs137 rfl
      exact X_ev (ev_eq rfl rfl) (g_tt hc137 rfl) (cvpV rfl (cv_refl _))
    refine steps_cons rfl ?_ ?_
    ·cases c137
     ·exact X_no (g_tf hc137 rfl) (cvpV rfl (cv_refl _))
     ·have hv137 := hs137 rfl
      exact X_ev (ev_move rfl) (g_tt hc137 rfl) (cvpV rfl (cv_refl _))
    refine steps_cons rfl ?_ ?_
    ·exact X_ev (ev_move rfl) rfl (cvpV rfl (cv_refl _))
    refine steps_cons rfl ?_ ?_
    ·cases c136
     ·exact X_ev (ev_pick_f' hc136 rfl rfl) rfl (cvpV (by rw [ho136 rfl]) (cv_refl _))
     ·have hv136 := hs136 rfl
      exact X_ev (ev_pick_t' hc136 rfl rfl) rfl (cvpV (by rw [hv136]) (cv_refl _))
    refine steps_cons rfl ?_ ?_
    ·cases c136
     ·exact X_no (g_tf hc136 rfl) (cvpV rfl (cv_refl _))
     ·have hv136 := hs136 rfl
      exact X_ev (ev_eq rfl rfl) (g_tt hc136 rfl) (cvpV rfl (cv_refl _))
    refine steps_cons rfl ?_ ?_
    ·cases c136
     ·exact X_no (g_tf hc136 rfl) (cvpV rfl (cv_refl _))
     ·have hv136 := hs136 rfl
      exact X_rd (rd_len 21 rfl els_sl rfl Tryz.underlying25) (g_tt hc136 rfl) (cvpV rfl (cv_refl _))
    refine steps_cons rfl ?_ ?_
    ·cases c136
     ·exact X_no (g_tf hc136 rfl) (cvpV rfl (cv_refl _))
     ·have hv136 := hs136 rfl
      exact X_ev (ev_move rfl) (g_tt hc136 rfl) (cvpV rfl (cv_refl _))
    refine steps_cons rfl ?_ ?_
    ·exact X_ev (ev_move rfl) rfl (cvpV rfl (cv_refl _))
    refine steps_cons rfl ?_ ?_
    ·cases c133
     ·exact X_ev (ev_pick_f' hc133 rfl rfl) rfl (cvpV (by rw [ho133 rfl]) (cv_refl _))
     ·obtain ⟨hx134, hy135, hv133⟩ := hs133 rfl
      exact X_ev (ev_pick_t' hc133 rfl rfl) rfl (cvpV (by rw [hv133]) (cv_refl _))
    refine steps_cons rfl ?_ ?_
    ·cases c133
     ·exact X_no (g_tf hc133 rfl) (cvpV rfl (cv_refl _))
     ·obtain ⟨hx134, hy135, hv133⟩ := hs133 rfl
      exact X_ev (ev_seq38 (x := x134) (y := y135) rfl rfl) (g_tt hc133 rfl) (cvpV rfl (cv_refl _))
    refine steps_cons rfl ?_ ?_
    ·cases c133
     ·exact X_no (g_tf hc133 rfl) (cvpV rfl (cv_refl _))
     ·obtain ⟨hx134, hy135, hv133⟩ := hs133 rfl
      refine X_op (op_callR (w22_object_ok hy135) call77 rfl (mem_nil) w22_object_free) (g_tt hc133 rfl) ?_
      rintro _ _ ⟨_, ⟨rfl, rfl⟩, rfl⟩
      exact cvpV rfl (cv_refl _)
    refine steps_cons rfl ?_ ?_
    ·cases c133
     ·exact X_no (g_tf hc133 rfl) (cvpV rfl (cv_refl _))
     ·obtain ⟨hx134, hy135, hv133⟩ := hs133 rfl
      obtain ⟨lx134, ux134, hx134⟩ := getE_elim hx134
      exact X_rd (rd_elemS (us := [iV x134.Kind, iV x134.N, .string x134.S]) 20 rfl els_sl rfl hx134 agg38 (fun _ _ _ h => by rw [show _ = _ from h]; rfl)) (g_tt hc133 rfl) (cvpV rfl (cv_refl _))
    refine steps_cons rfl ?_ ?_
    ·cases c133
     ·exact X_no (g_tf hc133 rfl) (cvpV rfl (cv_refl _))
     ·obtain ⟨hx134, hy135, hv133⟩ := hs133 rfl
      obtain ⟨lx134, ux134, hx134⟩ := getE_elim hx134
      exact X_rd (rd_idx 20 rfl els_sl rfl rfl Tryz.underlying25 size38 lx134 ux134) (g_tt hc133 rfl) (cvpV rfl (cv_refl _))
    refine steps_cons rfl ?_ ?_
    ·cases c133
     ·exact X_no (g_tf hc133 rfl) (cvpV rfl (cv_refl _))
     ·obtain ⟨hx134, hy135, hv133⟩ := hs133 rfl
      exact X_ev (ev_move rfl) (g_tt hc133 rfl) (cvpV rfl (cv_refl _))
    refine steps_cons rfl ?_ ?_
    ·exact X_ev (ev_move rfl) rfl (cvpV rfl (cv_refl _))
    refine steps_cons rfl ?_ ?_
    ·cases c132
     ·exact X_ev (ev_pick_f' hc132 rfl rfl) rfl (cvpV (by rw [ho132 rfl]) (cv_refl _))
     ·have hv132 := hs132 rfl
      exact X_ev (ev_pick_t' hc132 rfl rfl) rfl (cvpV (by rw [hv132]) (cv_refl _))
    refine steps_cons rfl ?_ ?_
    ·cases c132
     ·exact X_no (g_tf hc132 rfl) (cvpV rfl (cv_refl _))
     ·have hv132 := hs132 rfl
      exact X_ev (ev_eq rfl rfl) (g_tt hc132 rfl) (cvpV rfl (cv_refl _))
    refine steps_cons rfl ?_ ?_
    ·cases c132
     ·exact X_no (g_tf hc132 rfl) (cvpV rfl (cv_refl _))
     ·have hv132 := hs132 rfl
      exact X_rd (rd_len 20 rfl els_sl rfl Tryz.underlying25) (g_tt hc132 rfl) (cvpV rfl (cv_refl _))
    refine steps_cons rfl ?_ ?_
    ·cases c132
     ·exact X_no (g_tf hc132 rfl) (cvpV rfl (cv_refl _))
     ·have hv132 := hs132 rfl
      exact X_ev (ev_move rfl) (g_tt hc132 rfl) (cvpV rfl (cv_refl _))
    refine steps_cons rfl ?_ ?_
    ·exact X_ev (ev_move rfl) rfl (cvpV rfl (cv_refl _))
    refine steps_cons rfl ?_ ?_
    ·cases c122
     ·exact X_ev (ev_pick_f' hc122 rfl rfl) rfl (cvpV (by rw [ho122 rfl]) (cv_refl _))
     ·obtain ⟨hx123, hx128, hy131, hv122⟩ := hs122 rfl
      exact X_ev (ev_pick_t' hc122 rfl rfl) rfl (cvpV (by rw [hv122]) (cv_refl _))
    refine steps_cons rfl ?_ ?_
    ·cases c122
     ·exact X_no (g_tf hc122 rfl) (cvpV rfl (cv_refl _))
     ·obtain ⟨hx123, hx128, hy131, hv122⟩ := hs122 rfl
      exact X_ev (ev_seq38 (x := x128) (y := y131) rfl rfl) (g_tt hc122 rfl) (cvpV rfl (cv_refl _))
    refine steps_cons rfl ?_ ?_
    ·cases c122
     ·exact X_no (g_tf hc122 rfl) (cvpV rfl (cv_refl _))
     ·obtain ⟨hx123, hx128, hy131, hv122⟩ := hs122 rfl
      refine X_op (op_callR (w22_object_ok hy131) call77 rfl (mem_nil) w22_object_free) (g_tt hc122 rfl) ?_
      rintro _ _ ⟨_, ⟨rfl, rfl⟩, rfl⟩
      exact cvpV rfl (cv_refl _)
    refine steps_cons rfl ?_ ?_
    ·cases c122
     ·exact X_no (g_tf hc122 rfl) (cvpV rfl (cv_refl _))
     ·obtain ⟨hx123, hx128, hy131, hv122⟩ := hs122 rfl
      obtain ⟨lx128, ux128, hx128⟩ := getE_elim hx128
      intro A129 n129 c129
      exact X_rd (rd_elemS (us := [iV x128.Kind, iV x128.N, .string x128.S]) 0 rfl els_sl rfl hx128 agg38 (fun _ _ _ h => by rw [show _ = _ from h]; rfl)) (g_tt hc122 rfl) (cvpV rfl (cv_refl _))
    refine steps_cons rfl ?_ ?_
    ·cases c122
     ·exact X_no (g_tf hc122 rfl) (cvpV rfl (cv_refl _))
     ·obtain ⟨hx123, hx128, hy131, hv122⟩ := hs122 rfl
      obtain ⟨lx128, ux128, hx128⟩ := getE_elim hx128
      intro A127 n127 c127
      exact X_rd (rd_idx 0 rfl els_sl rfl rfl Tryz.underlying25 size38 lx128 ux128) (g_tt hc122 rfl) (cvp3 A127 n127 c127 ((cv_dup 0 rfl rfl).trans (cv_refl _)))
    refine steps_cons rfl ?_ ?_
    ·cases c122
     ·exact X_no (g_tf hc122 rfl) (cvpV rfl (cv_refl _))
     ·obtain ⟨hx123, hx128, hy131, hv122⟩ := hs122 rfl
      obtain ⟨lx123, ux123, hx123⟩ := getE_elim hx123
      refine X_row 19 rfl hx123 (open_DCell x123) ?_
      rintro _ _ ⟨A124, n124, c124, A125, n125, c125, rfl, rfl⟩
      exact X_rd (rd_row1 0 rfl rfl one25 rfl) (g_tt hc122 rfl) (cvp3 A125 n125 c125 (cv_sel [2, 3, 4, 5, 6, 7, 8, 9, 10, 11, 12, 13, 14, 15, 16, 17, 18, 19, 20, 21, 22, 23, 24, 25, 26, 27, 28, 29, 30, 31, 32, 33, 34, 35, 36, 37, 38, 39, 40, 41, 42, 43] 44 rfl rfl))
    refine steps_cons rfl ?_ ?_
    ·cases c122
     ·exact X_no (g_tf hc122 rfl) (cvpV rfl (cv_refl _))
     ·obtain ⟨hx123, hx128, hy131, hv122⟩ := hs122 rfl
      obtain ⟨lx123, ux123, hx123⟩ := getE_elim hx123
      exact X_rd (rd_fa 19 rfl els_sl rfl (toNat_lt lx123 ux123) fa_32_5) (g_tt hc122 rfl) (cvpV rfl (cv_refl _))
    refine steps_cons rfl ?_ ?_
    ·cases c122
     ·exact X_no (g_tf hc122 rfl) (cvpV rfl (cv_refl _))
     ·obtain ⟨hx123, hx128, hy131, hv122⟩ := hs122 rfl
      obtain ⟨lx123, ux123, hx123⟩ := getE_elim hx123
      exact X_rd (rd_idx 19 rfl els_sl rfl rfl Tryz.underlying22 size32 lx123 ux123) (g_tt hc122 rfl) (cvpV rfl (cv_refl _))
    refine steps_cons rfl ?_ ?_
    ·cases c122
     ·exact X_no (g_tf hc122 rfl) (cvpV rfl (cv_refl _))
     ·obtain ⟨hx123, hx128, hy131, hv122⟩ := hs122 rfl
      exact X_rd (rd_box1 22 rfl rfl one22 rfl) (g_tt hc122 rfl) (cvpV rfl (cv_refl _))
    refine steps_cons rfl ?_ ?_
    ·cases c122
     ·exact X_no (g_tf hc122 rfl) (cvpV rfl (cv_refl _))
     ·obtain ⟨hx123, hx128, hy131, hv122⟩ := hs122 rfl
      exact X_ev (ev_fa rfl fa_24_1) (g_tt hc122 rfl) (cvpV rfl (cv_refl _))
    refine steps_cons rfl ?_ ?_
    ·exact X_ev (ev_move rfl) rfl (cvpV rfl (cv_refl _))
    refine steps_cons rfl ?_ ?_
    ·cases c116
     ·exact X_ev (ev_pick_f' hc116 rfl rfl) rfl (cvpV (by rw [ho116 rfl]) (cv_refl _))
     ·obtain ⟨hx117, hv116⟩ := hs116 rfl
      exact X_ev (ev_pick_t' hc116 rfl rfl) rfl (cvpV (by rw [hv116]) (cv_refl _))
    refine steps_cons rfl ?_ ?_
    ·cases c116
     ·exact X_no (g_tf hc116 rfl) (cvpV rfl (cv_refl _))
     ·obtain ⟨hx117, hv116⟩ := hs116 rfl
      exact X_ev (ev_eq rfl rfl) (g_tt hc116 rfl) (cvpV rfl (cv_refl _))
    refine steps_cons rfl ?_ ?_
    ·cases c116
     ·exact X_no (g_tf hc116 rfl) (cvpV rfl (cv_refl _))
     ·obtain ⟨hx117, hv116⟩ := hs116 rfl
      intro A121 n121 c121
      exact X_rd (rd_len 0 rfl els_sl rfl Tryz.underlying25) (g_tt hc116 rfl) (cvpV rfl (cv_refl _))
    refine steps_cons rfl ?_ ?_
    ·cases c116
     ·exact X_no (g_tf hc116 rfl) (cvpV rfl (cv_refl _))
     ·obtain ⟨hx117, hv116⟩ := hs116 rfl
      obtain ⟨lx117, ux117, hx117⟩ := getE_elim hx117
      refine X_row 19 rfl hx117 (open_DCell x117) ?_
      rintro _ _ ⟨A118, n118, c118, A119, n119, c119, rfl, rfl⟩
      exact X_rd (rd_row1 0 rfl rfl one25 rfl) (g_tt hc116 rfl) (cvp3 A119 n119 c119 (cv_sel [2, 3, 4, 5, 6, 7, 8, 9, 10, 11, 12, 13, 14, 15, 16, 17, 18, 19, 20, 21, 22, 23, 24, 25, 26, 27, 28, 29, 30, 31, 32, 33, 34, 35, 36, 37, 38, 39, 40, 41, 42, 43] 44 rfl rfl))
    refine steps_cons rfl ?_ ?_
    ·cases c116
     ·exact X_no (g_tf hc116 rfl) (cvpV rfl (cv_refl _))
     ·obtain ⟨hx117, hv116⟩ := hs116 rfl
      obtain ⟨lx117, ux117, hx117⟩ := getE_elim hx117
      exact X_rd (rd_fa 19 rfl els_sl rfl (toNat_lt lx117 ux117) fa_32_5) (g_tt hc116 rfl) (cvpV rfl (cv_refl _))
    refine steps_cons rfl ?_ ?_
    ·cases c116
     ·exact X_no (g_tf hc116 rfl) (cvpV rfl (cv_refl _))
     ·obtain ⟨hx117, hv116⟩ := hs116 rfl
      obtain ⟨lx117, ux117, hx117⟩ := getE_elim hx117
      exact X_rd (rd_idx 19 rfl els_sl rfl rfl Tryz.underlying22 size32 lx117 ux117) (g_tt hc116 rfl) (cvpV rfl (cv_refl _))
    refine steps_cons rfl ?_ ?_
    ·cases c116
     ·exact X_no (g_tf hc116 rfl) (cvpV rfl (cv_refl _))
     ·obtain ⟨hx117, hv116⟩ := hs116 rfl
      exact X_rd (rd_box1 22 rfl rfl one22 rfl) (g_tt hc116 rfl) (cvpV rfl (cv_refl _))
    refine steps_cons rfl ?_ ?_
    ·cases c116
     ·exact X_no (g_tf hc116 rfl) (cvpV rfl (cv_refl _))
     ·obtain ⟨hx117, hv116⟩ := hs116 rfl
      exact X_ev (ev_fa rfl fa_24_1) (g_tt hc116 rfl) (cvpV rfl (cv_refl _))
    refine steps_cons rfl ?_ ?_
    ·exact X_ev (ev_move rfl) rfl (cvpV rfl (cv_refl _))
    refine steps_cons rfl ?_ ?_
    ·cases c115
     ·exact X_ev (ev_pick_f' hc115 rfl rfl) rfl (cvpV (by rw [ho115 rfl]) (cv_refl _))
     ·have hv115 := hs115 rfl
      exact X_ev (ev_pick_t' hc115 rfl rfl) rfl (cvpV (by rw [hv115]) (cv_refl _))
    refine steps_cons rfl ?_ ?_
    ·cases c115
     ·exact X_no (g_tf hc115 rfl) (cvpV rfl (cv_refl _))
     ·have hv115 := hs115 rfl
      exact X_ev (ev_eq rfl rfl) (g_tt hc115 rfl) (cvpV rfl (cv_refl _))
    refine steps_cons rfl ?_ ?_
    ·cases c115
     ·exact X_no (g_tf hc115 rfl) (cvpV rfl (cv_refl _))
     ·have hv115 := hs115 rfl
      exact X_rd (rd_len 18 rfl els_sl rfl Tryz.underlying22) (g_tt hc115 rfl) (cvpV rfl (cv_refl _))
    refine steps_cons rfl ?_ ?_
    ·cases c115
     ·exact X_no (g_tf hc115 rfl) (cvpV rfl (cv_refl _))
     ·have hv115 := hs115 rfl
      exact X_rd (rd_box1 22 rfl rfl one22 rfl) (g_tt hc115 rfl) (cvpV rfl (cv_refl _))
    refine steps_cons rfl ?_ ?_
    ·cases c115
     ·exact X_no (g_tf hc115 rfl) (cvpV rfl (cv_refl _))
     ·have hv115 := hs115 rfl
      exact X_ev (ev_fa0 rfl fa_24_0) (g_tt hc115 rfl) (cvpV rfl (cv_refl _))
    refine steps_cons rfl ?_ ?_
    ·exact X_ev (ev_move rfl) rfl (cvpV rfl (cv_refl _))
    refine steps_cons rfl ?_ ?_
    ·cases c114
     ·exact X_ev (ev_pick_f' hc114 rfl rfl) rfl (cvpV (by rw [ho114 rfl]) (cv_refl _))
     ·have hv114 := hs114 rfl
      exact X_ev (ev_pick_t' hc114 rfl rfl) rfl (cvpV (by rw [hv114]) (cv_refl _))
    refine steps_cons rfl ?_ ?_
    ·cases c114
     ·exact X_no (g_tf hc114 rfl) (cvpV rfl (cv_refl _))
     ·have hv114 := hs114 rfl
      exact X_ev (ev_eq rfl rfl) (g_tt hc114 rfl) (cvpV rfl (cv_refl _))
    refine steps_cons rfl ?_ ?_
    ·cases c114
     ·exact X_no (g_tf hc114 rfl) (cvpV rfl (cv_refl _))
     ·have hv114 := hs114 rfl
      exact X_rd (rd_len 19 rfl els_sl rfl Tryz.underlying22) (g_tt hc114 rfl) (cvpV rfl (cv_refl _))
    refine steps_cons rfl ?_ ?_
    ·cases c114
     ·exact X_no (g_tf hc114 rfl) (cvpV rfl (cv_refl _))
     ·have hv114 := hs114 rfl
      exact X_rd (rd_box1 22 rfl rfl one22 rfl) (g_tt hc114 rfl) (cvpV rfl (cv_refl _))
    refine steps_cons rfl ?_ ?_
    ·cases c114
     ·exact X_no (g_tf hc114 rfl) (cvpV rfl (cv_refl _))
     ·have hv114 := hs114 rfl
      exact X_ev (ev_fa rfl fa_24_1) (g_tt hc114 rfl) (cvpV rfl (cv_refl _))
    refine steps_cons rfl ?_ ?_
    ·exact X_ev (ev_move rfl) rfl (cvpV rfl (cv_refl _))
    refine steps_cons rfl ?_ ?_
    ·cases c113
     ·exact X_ev (ev_pick_f' hc113 rfl rfl) rfl (cvpV (by rw [ho113 rfl]) (cv_refl _))
     ·have hv113 := hs113 rfl
      exact X_ev (ev_pick_t' hc113 rfl rfl) rfl (cvpV (by rw [hv113]) (cv_refl _))
    refine steps_cons rfl ?_ ?_
    ·cases c113
     ·exact X_no (g_tf hc113 rfl) (cvpV rfl (cv_refl _))
     ·have hv113 := hs113 rfl
      exact X_ev (ev_eq rfl rfl) (g_tt hc113 rfl) (cvpV rfl (cv_refl _))
    refine steps_cons rfl ?_ ?_
    ·cases c113
     ·exact X_no (g_tf hc113 rfl) (cvpV rfl (cv_refl _))
     ·have hv113 := hs113 rfl
      exact X_ev (ev_move rfl) (g_tt hc113 rfl) (cvpV rfl (cv_refl _))
    refine steps_cons rfl ?_ ?_
    ·exact X_ev (ev_move rfl) rfl (cvpV rfl (cv_refl _))
    refine steps_cons rfl ?_ ?_
    ·cases c109
     ·exact X_ev (ev_pick_f' hc109 rfl rfl) rfl (cvpV (by rw [ho109 rfl]) (cv_refl _))
     ·obtain ⟨hy112, hv109⟩ := hs109 rfl
      exact X_ev (ev_pick_t' hc109 rfl rfl) rfl (cvpV (by rw [hv109]) (cv_refl _))
    refine steps_cons rfl ?_ ?_
    ·cases c109
     ·exact X_no (g_tf hc109 rfl) (cvpV rfl (cv_refl _))
     ·obtain ⟨hy112, hv109⟩ := hs109 rfl
      intro A111 n111 c111
      refine X_op (op_callR (r19_Same_ok hy112) call20 rfl (mem_cons (lent_own (i := 25) rfl) (mem_cons (lent_own (i := 0) rfl) mem_nil)) r19_Same_free) (g_tt hc109 rfl) ?_
      rintro _ _ ⟨_, ⟨rfl, rfl⟩, rfl⟩
      exact cvpV rfl (cv_refl _)
    refine steps_cons rfl ?_ ?_
    ·cases c109
     ·exact X_no (g_tf hc109 rfl) (cvpV rfl (cv_refl _))
     ·obtain ⟨hy112, hv109⟩ := hs109 rfl
      refine X_op (op_bslice (R := (rInt .i64)) (vss := [[iV 2], [iV 4]]) (xs := [2, 4]) rfl (bsl_35_2 _ _) rfl rfl (fun _ _ hr => .cons rfl (.cons rfl All2.nil))) (g_tt hc109 rfl) ?_
      rintro _ _ ⟨A110, n110, c110, rfl, rfl⟩
      exact cvp3 A110 n110 c110 (cv_refl _)
    refine steps_cons rfl ?_ ?_
    ·cases c109
     ·exact X_no (g_tf hc109 rfl) (cvpV rfl (cv_refl _))
     ·obtain ⟨hy112, hv109⟩ := hs109 rfl
      exact X_ev (ev_move rfl) (g_tt hc109 rfl) (cvpV rfl (cv_refl _))
    refine steps_cons rfl ?_ ?_
    ·exact X_ev (ev_move rfl) rfl (cvpV rfl (cv_refl _))
    refine steps_cons rfl ?_ ?_
    ·intro A107 n107 c107
     refine X_op (op_callR (r19_Same_ok hy108) call20 rfl (mem_cons (lent_own (i := 24) rfl) (mem_cons (lent_own (i := 0) rfl) mem_nil)) r19_Same_free) rfl ?_
     rintro _ _ ⟨_, ⟨rfl, rfl⟩, rfl⟩
     exact cvpV rfl (cv_refl _)
    refine steps_cons rfl ?_ ?_
    ·refine X_op (op_bslice (R := (rInt .i64)) (vss := [[iV 2], [iV 1]]) (xs := [2, 1]) rfl (bsl_35_2 _ _) rfl rfl (fun _ _ hr => .cons rfl (.cons rfl All2.nil))) rfl ?_
     rintro _ _ ⟨A106, n106, c106, rfl, rfl⟩
     exact cvp3 A106 n106 c106 (cv_refl _)
    refine steps_cons rfl ?_ ?_
    ·exact X_ev (ev_move rfl) rfl (cvpV rfl (cv_refl _))
    exact steps_nil
   ·refine N_sub (t := [(147, .bool b139), (0, .bool false), (3, .slice A24 n24 c24), (4, .slice A25 n25 c25), (5, pV B55 0), (6, .slice A50 n50 c50), (7, .slice A52 n52 c52), (8, iV y29.2.2.2), (10, pV B105 0), (12, .slice A102 n102 c102), (13, iV y78.2.2.2)]) (L' := [kS1 A96 n96 c96 y78.1.Young, kS1 A97 n97 c97 y78.1.Old, kS0 A100 n100 c100 y78.2.1, kS0 A102 n102 c102 y78.2.2.1, boxC B105 24 [.slice A96 n96 c96, .slice A97 n97 c97], boxC B74 24 [.slice none 0 0, .slice A73 n73 c73], kS1 A73 n73 c73 ([(⟨10, 0, 0, 0, ([(⟨1, 0, ⟨#[]⟩⟩ : DValue)] : List DValue), ([y57, y58, y59, (⟨0, 0, ⟨#[]⟩⟩ : DValue), (⟨3, 7, ⟨#[]⟩⟩ : DValue)] : List DValue)⟩ : DCell), y61, y65, y69] : List DCell), kS0 A70 n70 c70 y69.Slots, kS0 A71 n71 c71 y69.More, slC rDValue (.slice none 0 0) ([] : List DValue), kS0 A66 n66 c66 y65.Slots, kS0 A67 n67 c67 y65.More, slC rDValue (.slice none 0 0) ([] : List DValue), kS0 A62 n62 c62 y61.Slots, kS0 A63 n63 c63 y61.More, slC rDValue (.slice none 0 0) ([] : List DValue), kS0 A60 n60 c60 ([y57, y58, y59, (⟨0, 0, ⟨#[]⟩⟩ : DValue), (⟨3, 7, ⟨#[]⟩⟩ : DValue)] : List DValue), kS0 A56 n56 c56 ([(⟨1, 0, ⟨#[]⟩⟩ : DValue)] : List DValue), kS1 A46 n46 c46 y29.1.Young, kS1 A47 n47 c47 y29.1.Old, kS0 A50 n50 c50 y29.2.1, kS0 A52 n52 c52 y29.2.2.1, boxC B55 24 [.slice A46 n46 c46, .slice A47 n47 c47], kO2 A24 n24 c24 y23.1, kO2 A25 n25 c25 y23.2, kO3 A22 n22 c22 ([y21] : List DValue), boxC B20 24 [.slice A10 n10 c10, .slice A19 n19 c19], kS1 A19 n19 c19 ([y11, y15] : List DCell), kS0 A16 n16 c16 y15.Slots, kS0 A17 n17 c17 y15.More, slC rDValue (.slice none 0 0) ([] : List DValue), kS0 A12 n12 c12 y11.Slots, kS0 A13 n13 c13 y11.More, slC rDValue (.slice none 0 0) ([] : List DValue), kS1 A10 n10 c10 ([y3, y6] : List DCell), kS0 A7 n7 c7 y6.Slots, kS0 A8 n8 c8 y6.More, slC rDValue (.slice none 0 0) ([] : List DValue), kS0 A4 n4 c4 y3.Slots, kS0 A5 n5 c5 y3.More, kS0 A2 n2 c2 ([y1] : List DValue)]) ?_ subT (cv_refl _)
    refine N_ev 79 rfl (by kernel_rfl) (ev_assign rfl) rfl rfl rfl ?_
    refine N_done (by kernel_rfl) ?_
    refine run ?_
    obtain rfl := Option.some.inj h
    exact endG1 rfl rfl (cv_sel [] 41 rfl rfl) ⟨rfl, rfl⟩
theorem w22_goes_free {r : Bool} : ∀ v post, ((fun (u : Value) (post : List Chunk) => u = .bool r ∧ post = [])) v post → ∀ c ∈ post, Free c := by
 rintro _ _ ⟨rfl, rfl⟩; exact mem_nil
def w22_MajorTight_j21 (N : Nat) (y8 : (DMemory × (List DValue) × (List DValue) × Int)) (p22 : Bool) : Option Bool :=
 bif p22 then (some false) else ((major_Collect_O N y8.1 ((([] : List DValue) ++ y8.2.1) ++ y8.2.2.1)).bind fun y33 => (bif decide (y33.2.2.2 = 0) then ((r19_Cells_O N y33.1.Old y8.1.Old).bind fun y40 => some y40) else (some false)).bind fun b39 => (bif b39 then (some (decide ((y33.1.Young.length : Int) = 0))) else (some false)).bind fun b41 => (bif b41 then ((r15_SameValues_O N y33.2.1 ((([] : List DValue) ++ y8.2.1) ++ y8.2.2.1)).bind fun y43 => some y43) else (some false)).bind fun b42 => (bif b42 then (some (decide ((y33.2.2.1.length : Int) = 0))) else (some false)).bind fun b44 => (bif b44 then ((w22_goes_O N).bind fun y46 => some y46) else (some false)).bind fun b45 => some b45)
def w22_MajorTight_O (N : Nat) (a0 : DMemory) (a1 : (List DValue)) : Option Bool :=
 (r19_Few_O N a0 a1).bind fun y5 => bif !y5 then ((w22_goes_O N).bind fun y7 => some y7) else ((major_Collect_O N a0 a1).bind fun y8 => bif !decide (y8.2.2.2 = 0) then ((w22_goes_O N).bind fun y15 => some y15) else (req (fitsL (([] : List DValue).length + y8.2.1.length)) (req (fitsL ((([] : List DValue) ++ y8.2.1).length + y8.2.2.1.length)) ((bif !decide ((y8.1.Young.length : Int) = 0) then (some true) else ((r19_Live_O N a0 a1).bind fun y24 => some (!decide ((y8.1.Old.length : Int) = (y24.length : Int))))).bind fun b23 => ((bif b23 then (some true) else ((r19_Live_O N y8.1 ((([] : List DValue) ++ y8.2.1) ++ y8.2.2.1)).bind fun y28 => some (!decide ((y28.length : Int) = (y8.1.Old.length : Int))))).bind fun b27 => ((bif b27 then (some true) else (some (!decide ((y8.2.2.1.length : Int).tmod 3 = 0)))).bind fun b31 => (w22_MajorTight_j21 N y8 b31)))))))
set_option maxHeartbeats 4000000 in
theorem w22_MajorTight_ok {N : Nat} {a0 : DMemory} {a1 : (List DValue)} {r : Bool} (h : w22_MajorTight_O N a0 a1 = some r) {A1 : Option Addr} {n1 c1 : Nat} {A2 : Option Addr} {n2 c2 : Nat} {A3 : Option Addr} {n3 c3 : Nat} : Okc Tryz.prog 7 [.agg #[.slice A1 n1 c1, .slice A2 n2 c2], .slice A3 n3 c3] ([kS1 A1 n1 c1 a0.Young, kS1 A2 n2 c2 a0.Old, kS0 A3 n3 c3 a1]) (fun (u : Value) (post : List Chunk) => u = .bool r ∧ post = []) := by
 refine ok_E Tryz.func7 rfl rfl ?_
 simp only [envOf]
 refine run ?_
 refine gD (op_box rfl rfl) ?_
 rintro _ _ ⟨B4, rfl, rfl⟩
 refine run ?_
 refine G_seq ?_
 refine run ?_
 refine gR (rd_boxS (us := [.slice A1 n1 c1, .slice A2 n2 c2]) 0 rfl rfl agg24 rfl) ?_
 refine run ?_
 obtain ⟨y5, hy5, h⟩ := bind_elim h
 refine gD (op_callR (r19_Few_ok hy5) call10 rfl (mem_cons (lent_ro (i := 1) rfl rfl) (mem_cons (lent_ro (i := 2) rfl rfl) (mem_cons (lent_ro (i := 3) rfl rfl) mem_nil))) r19_Few_free) ?_
 rintro _ _ ⟨_, ⟨rfl, rfl⟩, rfl⟩
 refine run ?_
 refine G_cond rfl (fun g6 => ?_) (fun g6 => ?_)
 ·replace h := cond_t g6 h
  refine run ?_
  obtain ⟨y7, hy7, h⟩ := bind_elim h
  refine gD (op_callR (w22_goes_ok hy7) call30 rfl (mem_nil) w22_goes_free) ?_
  rintro _ _ ⟨_, ⟨rfl, rfl⟩, rfl⟩
  refine run ?_
  obtain rfl := Option.some.inj h
  exact endG1 rfl rfl (cv_sel [] 4 rfl rfl) ⟨rfl, rfl⟩
 ·replace h := cond_f g6 h
  refine run ?_
  refine gR (rd_boxS (us := [.slice A1 n1 c1, .slice A2 n2 c2]) 0 rfl rfl agg24 rfl) ?_
  refine run ?_
  obtain ⟨y8, hy8, h⟩ := bind_elim h
  refine gD (op_call (major_Collect_ok hy8) call31 rfl (cv_take [1, 2, 3] [] [0, 1, 2, 3] 4 rfl)) ?_
  rintro _ _ ⟨_, ⟨A9, n9, c9, A10, n10, c10, A11, n11, c11, A12, n12, c12, rfl, rfl⟩, rfl⟩
  refine G_norm ([kO4 A9 n9 c9 y8.1.Young, kO4 A10 n10 c10 y8.1.Old, kO3 A11 n11 c11 y8.2.1, kO3 A12 n12 c12 y8.2.2.1, boxC B4 24 [.slice A1 n1 c1, .slice A2 n2 c2], kS1 A1 n1 c1 a0.Young, kS1 A2 n2 c2 a0.Old, kS0 A3 n3 c3 a1]) rfl ?_
  refine run ?_
  refine gD (op_alloc zero24 rfl) ?_
  rintro _ _ ⟨B13, rfl, rfl⟩
  refine gO (op_store (us := [.slice A9 n9 c9, .slice A10 n10 c10]) (cs' := [.slice A9 n9 c9, .slice A10 n10 c10]) 0 rfl rfl rfl rfl size24 rfl rfl rfl) ?_
  rintro _ _ rfl
  refine G_norm ([boxC B13 24 [.slice A9 n9 c9, .slice A10 n10 c10], kO4 A9 n9 c9 y8.1.Young, kO4 A10 n10 c10 y8.1.Old, kO3 A11 n11 c11 y8.2.1, kO3 A12 n12 c12 y8.2.2.1, boxC B4 24 [.slice A1 n1 c1, .slice A2 n2 c2], kS1 A1 n1 c1 a0.Young, kS1 A2 n2 c2 a0.Old, kS0 A3 n3 c3 a1]) rfl ?_
  refine run ?_
  refine G_seq ?_
  refine run ?_
  refine G_cond rfl (fun g14 => ?_) (fun g14 => ?_)
  ·replace h := cond_t g14 h
   refine run ?_
   obtain ⟨y15, hy15, h⟩ := bind_elim h
   refine gD (op_callR (w22_goes_ok hy15) call30 rfl (mem_nil) w22_goes_free) ?_
   rintro _ _ ⟨_, ⟨rfl, rfl⟩, rfl⟩
   refine run ?_
   obtain rfl := Option.some.inj h
   exact endG1 rfl rfl (cv_sel [] 9 rfl rfl) ⟨rfl, rfl⟩
  ·replace h := cond_f g14 h
   refine run ?_
   refine gD (op_bslice (R := rDValue) (vss := []) (xs := []) rfl (bsl_25_0) rfl rfl (fun _ _ hr => All2.nil)) ?_
   rintro _ _ ⟨A16, n16, c16, rfl, rfl⟩
   refine run ?_
   obtain ⟨q17, h⟩ := req_elim h
   refine gD (op_append 0 4 rfl rfl els_own rfl rfl Tryz.underlying25 zb38 rfl rfl q17) ?_
   rintro _ _ ⟨A18, n18, c18, rfl, rfl⟩
   refine G_norm ([kO3 A18 n18 c18 (([] : List DValue) ++ y8.2.1), boxC B13 24 [.slice A9 n9 c9, .slice A10 n10 c10], kO4 A9 n9 c9 y8.1.Young, kO4 A10 n10 c10 y8.1.Old, kO3 A11 n11 c11 y8.2.1, kO3 A12 n12 c12 y8.2.2.1, boxC B4 24 [.slice A1 n1 c1, .slice A2 n2 c2], kS1 A1 n1 c1 a0.Young, kS1 A2 n2 c2 a0.Old, kS0 A3 n3 c3 a1]) rfl ?_
   refine run ?_
   obtain ⟨q19, h⟩ := req_elim h
   refine gD (op_append 0 5 rfl rfl els_own rfl rfl Tryz.underlying25 zb38 rfl rfl q19) ?_
   rintro _ _ ⟨A20, n20, c20, rfl, rfl⟩
   refine G_norm ([kO3 A20 n20 c20 ((([] : List DValue) ++ y8.2.1) ++ y8.2.2.1), boxC B13 24 [.slice A9 n9 c9, .slice A10 n10 c10], kO4 A9 n9 c9 y8.1.Young, kO4 A10 n10 c10 y8.1.Old, kO3 A11 n11 c11 y8.2.1, kO3 A12 n12 c12 y8.2.2.1, boxC B4 24 [.slice A1 n1 c1, .slice A2 n2 c2], kS1 A1 n1 c1 a0.Young, kS1 A2 n2 c2 a0.Old, kS0 A3 n3 c3 a1]) rfl ?_
   refine run ?_
   refine G_seq ?_
   refine G_joinF (fun s L => ∃ (p22 : Bool), w22_MajorTight_j21 N y8 p22 = some r ∧ s = [(4, .bool false), (5, pV B13 0), (9, .slice A20 n20 c20), (64, .bool p22)] ∧ L = [kO3 A20 n20 c20 ((([] : List DValue) ++ y8.2.1) ++ y8.2.2.1), kO4 A9 n9 c9 y8.1.Young, kO4 A10 n10 c10 y8.1.Old, boxC B13 24 [.slice A9 n9 c9, .slice A10 n10 c10]]) ?_ ?_
   ·obtain ⟨b23, hb23, h⟩ := bind_elim h
    obtain ⟨c23, hc23⟩ : ∃ c, (!decide ((y8.1.Young.length : Int) = 0)) = c := ⟨_, rfl⟩
    obtain ⟨y24, hs23⟩ : ∃ (y24 : ((List Int))), c23 = false → ((r19_Live_O N a0 a1) = some y24 ∧ (!decide ((y8.1.Old.length : Int) = (y24.length : Int))) = b23) := by
     cases c23
     ·replace hb23 := cond_f hc23 hb23
      obtain ⟨y24, hy24, hb23⟩ := bind_elim hb23
      exact ⟨y24, fun _ => ⟨hy24, Option.some.inj hb23⟩⟩
     ·exact ⟨default, fun e => by cases e⟩
    have ho23 : c23 = true → b23 = true := fun e => (Option.some.inj (cond_t (hc23.trans e) hb23)).symm
    obtain ⟨b27, hb27, h⟩ := bind_elim h
    obtain ⟨c27, hc27⟩ : ∃ c, b23 = c := ⟨_, rfl⟩
    obtain ⟨y28, hs27⟩ : ∃ (y28 : ((List Int))), c27 = false → ((r19_Live_O N y8.1 ((([] : List DValue) ++ y8.2.1) ++ y8.2.2.1)) = some y28 ∧ (!decide ((y28.length : Int) = (y8.1.Old.length : Int))) = b27) := by
     cases c27
     ·replace hb27 := cond_f hc27 hb27
      obtain ⟨y28, hy28, hb27⟩ := bind_elim hb27
      exact ⟨y28, fun _ => ⟨hy28, Option.some.inj hb27⟩⟩
     ·exact ⟨default, fun e => by cases e⟩
    have ho27 : c27 = true → b27 = true := fun e => (Option.some.inj (cond_t (hc27.trans e) hb27)).symm
    obtain ⟨b31, hb31, h⟩ := bind_elim h
    obtain ⟨c31, hc31⟩ : ∃ c, b27 = c := ⟨_, rfl⟩
    obtain hs31 : c31 = false → ((!decide ((y8.2.2.1.length : Int).tmod 3 = 0)) = b31) := by
     cases c31
     ·replace hb31 := cond_f hc31 hb31
      exact fun _ => Option.some.inj hb31
     ·exact fun e => by cases e
    have ho31 : c31 = true → b31 = true := fun e => (Option.some.inj (cond_t (hc31.trans e) hb31)).symm
    refine G_sub (t := [(1, .slice A3 n3 c3), (2, pV B4 0), (4, .bool false), (5, pV B13 0), (7, .slice A12 n12 c12), (9, .slice A20 n20 c20)]) ?_ subT (cv_refl _)
    refine G_monoX (by kernel_rfl) 30 [] [29] [35, 36, 37, 38, 39, 40, 41, 42, 43, 44, 45, 46, 47, 48, 49, 50, 51, 52, 53, 54, 55, 56, 57, 58, 59, 60, 61, 62, 63, 64] [[], [0], [1], [2], [3], [4], [4, 5], [4, 6], [4], [4], [4, 8, 9], [4, 10], [4, 7, 11], [4, 12], [13], [14], [14], [14, 15, 16], [14, 17], [14], [14, 19], [14, 20], [14, 18, 21], [14, 22], [23], [24], [24, 25], [24, 26], [24, 27], [24, 28]] [aV (pV B13 0),
 aV (.slice A9 n9 c9),
 aV (iV (y8.1.Young.length : Int)),
 aV (.bool (!decide ((y8.1.Young.length : Int) = 0))),
 aV (.bool (!decide ((y8.1.Young.length : Int) = 0))),
 (bif c23 then aV undef else aV (pV B13 1)),
 (bif c23 then aV undef else aV (.slice A10 n10 c10)),
 (bif c23 then aV undef else aV (iV (y8.1.Old.length : Int))),
 (bif c23 then aV undef else aV (.agg #[.slice A1 n1 c1, .slice A2 n2 c2])),
 (bif c23 then aV undef else aV (.slice A3 n3 c3)),
 (bif c23 then aV undef else aX3 (fun (A26 : Option Addr) (n26 c26 : Nat) => .slice A26 n26 c26) (fun A26 n26 c26 => [kO2 A26 n26 c26 y24])),
 (bif c23 then aV undef else aV (iV (y24.length : Int))),
 (bif c23 then aV undef else aV (.bool (!decide ((y8.1.Old.length : Int) = (y24.length : Int))))),
 aV (.bool b23),
 aV (.bool b23),
 (bif c27 then aV undef else aV (.agg #[.slice A9 n9 c9, .slice A10 n10 c10])),
 (bif c27 then aV undef else aV (.slice A20 n20 c20)),
 (bif c27 then aV undef else aX3 (fun (A30 : Option Addr) (n30 c30 : Nat) => .slice A30 n30 c30) (fun A30 n30 c30 => [kO2 A30 n30 c30 y28])),
 (bif c27 then aV undef else aV (iV (y28.length : Int))),
 (bif c27 then aV undef else aV (pV B13 1)),
 (bif c27 then aV undef else aV (.slice A10 n10 c10)),
 (bif c27 then aV undef else aV (iV (y8.1.Old.length : Int))),
 (bif c27 then aV undef else aV (.bool (!decide ((y28.length : Int) = (y8.1.Old.length : Int))))),
 aV (.bool b27),
 aV (.bool b27),
 (bif c31 then aV undef else aV (.slice A12 n12 c12)),
 (bif c31 then aV undef else aV (iV (y8.2.2.1.length : Int))),
 (bif c31 then aV undef else aV (iV ((y8.2.2.1.length : Int).tmod 3))),
 (bif c31 then aV undef else aV (.bool (!decide ((y8.2.2.1.length : Int).tmod 3 = 0)))),
 aV (.bool b31)] [] (cv_refl _) (qB_nil) (by kernel_rfl) rfl rfl ?_ ?_ ?_
    ·exact qs_nil
    ·refine steps_cons rfl ?_ ?_
     ·cases c31
      ·have hv31 := hs31 rfl
       exact X_ev (ev_pick_f' hc31 rfl rfl) rfl (cvpV (by rw [hv31]) (cv_refl _))
      ·exact X_ev (ev_pick_t' hc31 rfl rfl) rfl (cvpV (by rw [ho31 rfl]) (cv_refl _))
     refine steps_cons rfl ?_ ?_
     ·cases c31
      ·have hv31 := hs31 rfl
       exact X_ev (ev_ne rfl rfl) (g_ff hc31 rfl) (cvpV rfl (cv_refl _))
      ·exact X_no (g_ft hc31 rfl) (cvpV rfl (cv_refl _))
     refine steps_cons rfl ?_ ?_
     ·cases c31
      ·have hv31 := hs31 rfl
       exact X_ev (ev_rem rfl rfl (by decide)) (g_ff hc31 rfl) (cvpV rfl (cv_refl _))
      ·exact X_no (g_ft hc31 rfl) (cvpV rfl (cv_refl _))
     refine steps_cons rfl ?_ ?_
     ·cases c31
      ·have hv31 := hs31 rfl
       exact X_rd (rd_len 5 rfl els_own rfl Tryz.underlying25) (g_ff hc31 rfl) (cvpV rfl (cv_refl _))
      ·exact X_no (g_ft hc31 rfl) (cvpV rfl (cv_refl _))
     refine steps_cons rfl ?_ ?_
     ·cases c31
      ·have hv31 := hs31 rfl
       exact X_ev (ev_move rfl) (g_ff hc31 rfl) (cvpV rfl (cv_refl _))
      ·exact X_no (g_ft hc31 rfl) (cvpV rfl (cv_refl _))
     refine steps_cons rfl ?_ ?_
     ·exact X_ev (ev_move rfl) rfl (cvpV rfl (cv_refl _))
     refine steps_cons rfl ?_ ?_
     ·cases c27
      ·obtain ⟨hy28, hv27⟩ := hs27 rfl
       exact X_ev (ev_pick_f' hc27 rfl rfl) rfl (cvpV (by rw [hv27]) (cv_refl _))
      ·exact X_ev (ev_pick_t' hc27 rfl rfl) rfl (cvpV (by rw [ho27 rfl]) (cv_refl _))
     refine steps_cons rfl ?_ ?_
     ·cases c27
      ·obtain ⟨hy28, hv27⟩ := hs27 rfl
       exact X_ev (ev_ne rfl rfl) (g_ff hc27 rfl) (cvpV rfl (cv_refl _))
      ·exact X_no (g_ft hc27 rfl) (cvpV rfl (cv_refl _))
     refine steps_cons rfl ?_ ?_
     ·cases c27
      ·obtain ⟨hy28, hv27⟩ := hs27 rfl
       exact X_rd (rd_len 3 rfl els_own rfl Tryz.underlying22) (g_ff hc27 rfl) (cvpV rfl (cv_refl _))
      ·exact X_no (g_ft hc27 rfl) (cvpV rfl (cv_refl _))
     refine steps_cons rfl ?_ ?_
     ·cases c27
      ·obtain ⟨hy28, hv27⟩ := hs27 rfl
       exact X_rd (rd_box1 1 rfl rfl one22 rfl) (g_ff hc27 rfl) (cvpV rfl (cv_refl _))
      ·exact X_no (g_ft hc27 rfl) (cvpV rfl (cv_refl _))
     refine steps_cons rfl ?_ ?_
     ·cases c27
      ·obtain ⟨hy28, hv27⟩ := hs27 rfl
       exact X_ev (ev_fa rfl fa_24_1) (g_ff hc27 rfl) (cvpV rfl (cv_refl _))
      ·exact X_no (g_ft hc27 rfl) (cvpV rfl (cv_refl _))
     refine steps_cons rfl ?_ ?_
     ·cases c27
      ·obtain ⟨hy28, hv27⟩ := hs27 rfl
       intro A30 n30 c30
       exact X_rd (rd_len 0 rfl els_own rfl Tryz.underlying35) (g_ff hc27 rfl) (cvpV rfl (cv_refl _))
      ·exact X_no (g_ft hc27 rfl) (cvpV rfl (cv_refl _))
     refine steps_cons rfl ?_ ?_
     ·cases c27
      ·obtain ⟨hy28, hv27⟩ := hs27 rfl
       refine X_op (op_callR (r19_Live_ok hy28) call24 rfl (mem_cons (lent_own (i := 2) rfl) (mem_cons (lent_own (i := 3) rfl) (mem_cons (lent_own (i := 0) rfl) mem_nil))) r19_Live_free) (g_ff hc27 rfl) ?_
       rintro _ _ ⟨_, ⟨A29, n29, c29, rfl, rfl⟩, rfl⟩
       exact cvp3 A29 n29 c29 (cv_refl _)
      ·exact X_no (g_ft hc27 rfl) (cvpV rfl (cv_refl _))
     refine steps_cons rfl ?_ ?_
     ·cases c27
      ·obtain ⟨hy28, hv27⟩ := hs27 rfl
       exact X_ev (ev_move rfl) (g_ff hc27 rfl) (cvpV rfl (cv_refl _))
      ·exact X_no (g_ft hc27 rfl) (cvpV rfl (cv_refl _))
     refine steps_cons rfl ?_ ?_
     ·cases c27
      ·obtain ⟨hy28, hv27⟩ := hs27 rfl
       exact X_rd (rd_boxS (us := [.slice A9 n9 c9, .slice A10 n10 c10]) 1 rfl rfl agg24 rfl) (g_ff hc27 rfl) (cvpV rfl (cv_refl _))
      ·exact X_no (g_ft hc27 rfl) (cvpV rfl (cv_refl _))
     refine steps_cons rfl ?_ ?_
     ·exact X_ev (ev_move rfl) rfl (cvpV rfl (cv_refl _))
     refine steps_cons rfl ?_ ?_
     ·cases c23
      ·obtain ⟨hy24, hv23⟩ := hs23 rfl
       exact X_ev (ev_pick_f' hc23 rfl rfl) rfl (cvpV (by rw [hv23]) (cv_refl _))
      ·exact X_ev (ev_pick_t' hc23 rfl rfl) rfl (cvpV (by rw [ho23 rfl]) (cv_refl _))
     refine steps_cons rfl ?_ ?_
     ·cases c23
      ·obtain ⟨hy24, hv23⟩ := hs23 rfl
       exact X_ev (ev_ne rfl rfl) (g_ff hc23 rfl) (cvpV rfl (cv_refl _))
      ·exact X_no (g_ft hc23 rfl) (cvpV rfl (cv_refl _))
     refine steps_cons rfl ?_ ?_
     ·cases c23
      ·obtain ⟨hy24, hv23⟩ := hs23 rfl
       intro A26 n26 c26
       exact X_rd (rd_len 0 rfl els_own rfl Tryz.underlying35) (g_ff hc23 rfl) (cvpV rfl (cv_refl _))
      ·exact X_no (g_ft hc23 rfl) (cvpV rfl (cv_refl _))
     refine steps_cons rfl ?_ ?_
     ·cases c23
      ·obtain ⟨hy24, hv23⟩ := hs23 rfl
       refine X_op (op_callR (r19_Live_ok hy24) call24 rfl (mem_cons (lent_ro (i := 7) rfl rfl) (mem_cons (lent_ro (i := 8) rfl rfl) (mem_cons (lent_ro (i := 9) rfl rfl) mem_nil))) r19_Live_free) (g_ff hc23 rfl) ?_
       rintro _ _ ⟨_, ⟨A25, n25, c25, rfl, rfl⟩, rfl⟩
       exact cvp3 A25 n25 c25 (cv_refl _)
      ·exact X_no (g_ft hc23 rfl) (cvpV rfl (cv_refl _))
     refine steps_cons rfl ?_ ?_
     ·cases c23
      ·obtain ⟨hy24, hv23⟩ := hs23 rfl
       exact X_ev (ev_move rfl) (g_ff hc23 rfl) (cvpV rfl (cv_refl _))
      ·exact X_no (g_ft hc23 rfl) (cvpV rfl (cv_refl _))
     refine steps_cons rfl ?_ ?_
     ·cases c23
      ·obtain ⟨hy24, hv23⟩ := hs23 rfl
       exact X_rd (rd_boxS (us := [.slice A1 n1 c1, .slice A2 n2 c2]) 6 rfl rfl agg24 rfl) (g_ff hc23 rfl) (cvpV rfl (cv_refl _))
      ·exact X_no (g_ft hc23 rfl) (cvpV rfl (cv_refl _))
     refine steps_cons rfl ?_ ?_
     ·cases c23
      ·obtain ⟨hy24, hv23⟩ := hs23 rfl
       exact X_rd (rd_len 3 rfl els_own rfl Tryz.underlying22) (g_ff hc23 rfl) (cvpV rfl (cv_refl _))
      ·exact X_no (g_ft hc23 rfl) (cvpV rfl (cv_refl _))
     refine steps_cons rfl ?_ ?_
     ·cases c23
      ·obtain ⟨hy24, hv23⟩ := hs23 rfl
       exact X_rd (rd_box1 1 rfl rfl one22 rfl) (g_ff hc23 rfl) (cvpV rfl (cv_refl _))
      ·exact X_no (g_ft hc23 rfl) (cvpV rfl (cv_refl _))
     refine steps_cons rfl ?_ ?_
     ·cases c23
      ·obtain ⟨hy24, hv23⟩ := hs23 rfl
       exact X_ev (ev_fa rfl fa_24_1) (g_ff hc23 rfl) (cvpV rfl (cv_refl _))
      ·exact X_no (g_ft hc23 rfl) (cvpV rfl (cv_refl _))
     refine steps_cons rfl ?_ ?_
     ·exact X_ev (ev_move rfl) rfl (cvpV rfl (cv_refl _))
     refine steps_cons rfl ?_ ?_
     ·exact X_ev (ev_ne rfl rfl) rfl (cvpV rfl (cv_refl _))
     refine steps_cons rfl ?_ ?_
     ·exact X_rd (rd_len 2 rfl els_own rfl Tryz.underlying22) rfl (cvpV rfl (cv_refl _))
     refine steps_cons rfl ?_ ?_
     ·exact X_rd (rd_box1 1 rfl rfl one22 rfl) rfl (cvpV rfl (cv_refl _))
     refine steps_cons rfl ?_ ?_
     ·exact X_ev (ev_fa0 rfl fa_24_0) rfl (cvpV rfl (cv_refl _))
     exact steps_nil
    ·refine N_sub (t := [(64, .bool b31), (1, .slice A3 n3 c3), (2, pV B4 0), (4, .bool false), (5, pV B13 0), (7, .slice A12 n12 c12), (9, .slice A20 n20 c20)]) (L' := [kO3 A20 n20 c20 ((([] : List DValue) ++ y8.2.1) ++ y8.2.2.1), boxC B13 24 [.slice A9 n9 c9, .slice A10 n10 c10], kO4 A9 n9 c9 y8.1.Young, kO4 A10 n10 c10 y8.1.Old, kO3 A11 n11 c11 y8.2.1, kO3 A12 n12 c12 y8.2.2.1, boxC B4 24 [.slice A1 n1 c1, .slice A2 n2 c2], kS1 A1 n1 c1 a0.Young, kS1 A2 n2 c2 a0.Old, kS0 A3 n3 c3 a1]) ?_ subT (cv_refl _)
     refine N_done (by kernel_rfl) ?_
     refine nx_n ?_
     exact ⟨_, _, ⟨b31, h, rfl, rfl⟩, sA, cv_sel [0, 2, 3, 1] 10 rfl rfl⟩
   ·rintro _ _ ⟨p22, h, rfl, rfl⟩
    refine G_cond rfl (fun g32 => ?_) (fun g32 => ?_)
    ·replace h := cond_t g32 h
     refine run ?_
     obtain rfl := Option.some.inj h
     exact endG1 rfl rfl (cv_sel [] 4 rfl rfl) ⟨rfl, rfl⟩
    ·replace h := cond_f g32 h
     refine run ?_
     refine gR (rd_boxS (us := [.slice A9 n9 c9, .slice A10 n10 c10]) 3 rfl rfl agg24 rfl) ?_
     refine run ?_
     obtain ⟨y33, hy33, h⟩ := bind_elim h
     refine G_cv (cv_frz 1 rfl) ?_
     refine G_norm ([kO3 A20 n20 c20 ((([] : List DValue) ++ y8.2.1) ++ y8.2.2.1), kS1 A9 n9 c9 y8.1.Young, kO4 A10 n10 c10 y8.1.Old, boxC B13 24 [.slice A9 n9 c9, .slice A10 n10 c10]]) rfl ?_
     refine G_cv (cv_frz 2 rfl) ?_
     refine G_norm ([kO3 A20 n20 c20 ((([] : List DValue) ++ y8.2.1) ++ y8.2.2.1), kS1 A9 n9 c9 y8.1.Young, kS1 A10 n10 c10 y8.1.Old, boxC B13 24 [.slice A9 n9 c9, .slice A10 n10 c10]]) rfl ?_
     refine G_cv (cv_frz 0 rfl) ?_
     refine G_norm ([kS0 A20 n20 c20 ((([] : List DValue) ++ y8.2.1) ++ y8.2.2.1), kS1 A9 n9 c9 y8.1.Young, kS1 A10 n10 c10 y8.1.Old, boxC B13 24 [.slice A9 n9 c9, .slice A10 n10 c10]]) rfl ?_
     refine gD (op_call (major_Collect_ok hy33) call31 rfl (cv_take [1, 2, 0] [] [0, 1, 2, 3] 4 rfl)) ?_
     rintro _ _ ⟨_, ⟨A34, n34, c34, A35, n35, c35, A36, n36, c36, A37, n37, c37, rfl, rfl⟩, rfl⟩
     refine G_norm ([kO4 A34 n34 c34 y33.1.Young, kO4 A35 n35 c35 y33.1.Old, kO3 A36 n36 c36 y33.2.1, kO3 A37 n37 c37 y33.2.2.1, kS0 A20 n20 c20 ((([] : List DValue) ++ y8.2.1) ++ y8.2.2.1), kS1 A9 n9 c9 y8.1.Young, kS1 A10 n10 c10 y8.1.Old, boxC B13 24 [.slice A9 n9 c9, .slice A10 n10 c10]]) rfl ?_
     refine run ?_
     refine gD (op_alloc zero24 rfl) ?_
     rintro _ _ ⟨B38, rfl, rfl⟩
     refine gO (op_store (us := [.slice A34 n34 c34, .slice A35 n35 c35]) (cs' := [.slice A34 n34 c34, .slice A35 n35 c35]) 0 rfl rfl rfl rfl size24 rfl rfl rfl) ?_
     rintro _ _ rfl
     refine G_norm ([boxC B38 24 [.slice A34 n34 c34, .slice A35 n35 c35], kO4 A34 n34 c34 y33.1.Young, kO4 A35 n35 c35 y33.1.Old, kO3 A36 n36 c36 y33.2.1, kO3 A37 n37 c37 y33.2.2.1, kS0 A20 n20 c20 ((([] : List DValue) ++ y8.2.1) ++ y8.2.2.1), kS1 A9 n9 c9 y8.1.Young, kS1 A10 n10 c10 y8.1.Old, boxC B13 24 [.slice A9 n9 c9, .slice A10 n10 c10]]) rfl ?_
     refine run ?_
     obtain ⟨b39, hb39, h⟩ := bind_elim h
     refine G_segb 6 81 b39 ?_ ?_
     ·clear h
      refine G_case 75 rfl (fun g39 => ?_) (fun g39 => ?_)
      ·have h := cond_t g39 hb39
       refine run ?_
       refine G_rd (rd_box1 8 rfl rfl one22 rfl) rfl (g_tt g39 rfl) rfl ?_
       obtain ⟨y40, hy40, h⟩ := bind_elim h
       refine G_opd (op_callR (r19_Cells_ok hy40) call27 rfl (mem_cons (lent_own (i := 2) rfl) (mem_cons (lent_ro (i := 7) rfl rfl) mem_nil)) r19_Cells_free) rfl (g_tt g39 rfl) rfl ?_
       rintro _ _ ⟨_, ⟨rfl, rfl⟩, rfl⟩
       refine run ?_
       obtain rfl := Option.some.inj h
       exact G_joined sA (cv_sel [0, 1, 2, 3, 4, 5, 6, 7, 8] 9 rfl rfl)
      ·have h := cond_f g39 hb39
       refine run ?_
       obtain rfl := Option.some.inj h
       exact G_joined sA (cv_sel [0, 1, 2, 3, 4, 5, 6, 7, 8] 9 rfl rfl)
     refine run ?_
     obtain ⟨b41, hb41, h⟩ := bind_elim h
     refine G_segb 5 87 b41 ?_ ?_
     ·clear h
      refine G_case 82 rfl (fun g41 => ?_) (fun g41 => ?_)
      ·have h := cond_t g41 hb41
       refine run ?_
       refine G_rd (rd_len 1 rfl els_own rfl Tryz.underlying22) rfl (g_tt g41 rfl) rfl ?_
       refine run ?_
       obtain rfl := Option.some.inj h
       exact G_joined sA (cv_sel [0, 1, 2, 3, 4, 5, 6, 7, 8] 9 rfl rfl)
      ·have h := cond_f g41 hb41
       refine run ?_
       obtain rfl := Option.some.inj h
       exact G_joined sA (cv_sel [0, 1, 2, 3, 4, 5, 6, 7, 8] 9 rfl rfl)
     refine run ?_
     obtain ⟨b42, hb42, h⟩ := bind_elim h
     refine G_segb 4 92 b42 ?_ ?_
     ·clear h
      refine G_case 88 rfl (fun g42 => ?_) (fun g42 => ?_)
      ·have h := cond_t g42 hb42
       refine run ?_
       obtain ⟨y43, hy43, h⟩ := bind_elim h
       refine G_opd (op_callR (r15_SameValues_ok hy43) call35 rfl (mem_cons (lent_own (i := 3) rfl) (mem_cons (lent_ro (i := 5) rfl rfl) mem_nil)) r15_SameValues_free) rfl (g_tt g42 rfl) rfl ?_
       rintro _ _ ⟨_, ⟨rfl, rfl⟩, rfl⟩
       refine run ?_
       obtain rfl := Option.some.inj h
       exact G_joined sA (cv_sel [0, 1, 2, 3, 4, 5, 6, 7, 8] 9 rfl rfl)
      ·have h := cond_f g42 hb42
       refine run ?_
       obtain rfl := Option.some.inj h
       exact G_joined sA (cv_sel [0, 1, 2, 3, 4, 5, 6, 7, 8] 9 rfl rfl)
     refine run ?_
     obtain ⟨b44, hb44, h⟩ := bind_elim h
     refine G_segb 4 97 b44 ?_ ?_
     ·clear h
      refine G_case 93 rfl (fun g44 => ?_) (fun g44 => ?_)
      ·have h := cond_t g44 hb44
       refine run ?_
       refine G_rd (rd_len 4 rfl els_own rfl Tryz.underlying25) rfl (g_tt g44 rfl) rfl ?_
       refine run ?_
       obtain rfl := Option.some.inj h
       exact G_joined sA (cv_sel [0, 1, 2, 3, 4, 5, 6, 7, 8] 9 rfl rfl)
      ·have h := cond_f g44 hb44
       refine run ?_
       obtain rfl := Option.some.inj h
       exact G_joined sA (cv_sel [0, 1, 2, 3, 4, 5, 6, 7, 8] 9 rfl rfl)
     refine run ?_
     obtain ⟨b45, hb45, h⟩ := bind_elim h
     refine G_segb 2 100 b45 ?_ ?_
     ·clear h
      refine G_case 98 rfl (fun g45 => ?_) (fun g45 => ?_)
      ·have h := cond_t g45 hb45
       obtain ⟨y46, hy46, h⟩ := bind_elim h
       refine G_opd (op_callR (w22_goes_ok hy46) call30 rfl (mem_nil) w22_goes_free) rfl (g_tt g45 rfl) rfl ?_
       rintro _ _ ⟨_, ⟨rfl, rfl⟩, rfl⟩
       refine run ?_
       obtain rfl := Option.some.inj h
       exact G_joined sA (cv_sel [0, 1, 2, 3, 4, 5, 6, 7, 8] 9 rfl rfl)
      ·have h := cond_f g45 hb45
       refine run ?_
       obtain rfl := Option.some.inj h
       exact G_joined sA (cv_sel [0, 1, 2, 3, 4, 5, 6, 7, 8] 9 rfl rfl)
     refine run ?_
     obtain rfl := Option.some.inj h
     exact endG1 rfl rfl (cv_sel [] 9 rfl rfl) ⟨rfl, rfl⟩
end Go.Proofs.YtmbaennilhdieaaGreat
/- Pure functions and contracts of Go functions (printed by all3.py). -/
namespace Go.Proofs.YtmbaennilhdieaaGreat
open Go.RowKit Asn
set_option maxRecDepth 20000
end Go.Proofs.YtmbaennilhdieaaGreat
/- Pure functions and contracts of Go functions (printed by all3.py). -/
namespace Go.Proofs.YtmbaennilhdieaaGreat
open Go.RowKit Asn
set_option maxRecDepth 20000
end Go.Proofs.YtmbaennilhdieaaGreat
/- Pure functions and contracts of Go functions (printed by all3.py). -/
namespace Go.Proofs.YtmbaennilhdieaaGreat
open Go.RowKit Asn
set_option maxRecDepth 20000
end Go.Proofs.YtmbaennilhdieaaGreat
/- All printed functions. -/
/- Plain tools for translated functions: results in Option, loops with fuel. Over any program. -/
namespace Go.Proofs.YtmbaennilhdieaaGreat
open Go.RowKit
def Sat {ρ : Type} (m : Option ρ) (R : ρ → Prop) : Prop := ∃ r, m = some r ∧ R r
theorem sat_some {ρ : Type} {x : ρ} {R : ρ → Prop} (h : R x) : Sat (some x) R := ⟨x, rfl, h⟩
theorem Sat.eq {ρ : Type} {m : Option ρ} {x : ρ} (h : Sat m (· = x)) : m = some x := by obtain ⟨r, h1, rfl⟩ := h; exact h1
theorem Sat.mono {ρ : Type} {m : Option ρ} {R Q : ρ → Prop} (h : Sat m R) (k : ∀ x, R x → Q x) : Sat m Q := by obtain ⟨r, h1, h2⟩ := h; exact ⟨r, h1, k _ h2⟩
theorem Sat.bind {ρ σ : Type} {m : Option σ} {f : σ → Option ρ} {P : σ → Prop} {R : ρ → Prop} (h : Sat m P) (k : ∀ x, P x → Sat (f x) R) : Sat (m.bind f) R := by obtain ⟨x, rfl, h2⟩ := h; exact k x h2
theorem sat_cond {ρ : Type} {b : Bool} {x y : Option ρ} {R : ρ → Prop} (h1 : b = true → Sat x R) (h2 : b = false → Sat y R) : Sat (bif b then x else y) R := by cases b with | true => exact h1 rfl | false => exact h2 rfl
theorem sat_dec {ρ : Type} {p : Prop} [Decidable p] {x y : Option ρ} {R : ρ → Prop} (h1 : p → Sat x R) (h2 : ¬ p → Sat y R) : Sat (bif decide p then x else y) R := by
 by_cases h : p
 ·rw [decide_eq_true h]; exact h1 h
 ·rw [decide_eq_false h]; exact h2 h
theorem sat_not {ρ : Type} {b : Bool} {x y : Option ρ} {R : ρ → Prop} (h1 : b = false → Sat x R) (h2 : b = true → Sat y R) : Sat (bif !b then x else y) R := by cases b with | true => exact h2 rfl | false => exact h1 rfl
theorem bs {ρ σ : Type} {x : σ} {f : σ → Option ρ} : (some x).bind f = f x := Eq.trans rfl rfl
theorem ct {ρ : Type} {x y : ρ} : (bif true then x else y) = x := Eq.trans rfl rfl
theorem cf {ρ : Type} {x y : ρ} : (bif false then x else y) = y := Eq.trans rfl rfl
theorem nt : (!true) = false := Eq.trans rfl rfl
theorem nf : (!false) = true := Eq.trans rfl rfl
theorem lt_t {a b : Int} (h : a < b) : decide (a < b) = true := decide_eq_true h
theorem lt_f {a b : Int} (h : b ≤ a) : decide (a < b) = false := decide_eq_false (by omega)
theorem le_t {a b : Int} (h : a ≤ b) : decide (a ≤ b) = true := decide_eq_true h
theorem le_f {a b : Int} (h : b < a) : decide (a ≤ b) = false := decide_eq_false (by omega)
theorem eq_t {a b : Int} (h : a = b) : decide (a = b) = true := decide_eq_true h
theorem eq_f {a b : Int} (h : a ≠ b) : decide (a = b) = false := decide_eq_false h
theorem req_t {ρ : Type} {b : Prop} [Decidable b] {m : Option ρ} (h : b) : req b m = m := if_pos h
theorem r64 {ρ : Type} {a : Int} {m : Option ρ} (h1 : -9000000000000000000 ≤ a) (h2 : a ≤ 9000000000000000000) : req (in64 a) m = m := if_pos ⟨by omega, by omega⟩
theorem rF {ρ : Type} {n : Nat} {m : Option ρ} (h : n ≤ 1000000) : req (fitsL n) m = m := if_pos (by unfold fitsL; omega)
theorem getE_at {α : Type} {xs : List α} {i : Int} (h0 : 0 ≤ i) (h1 : i.toNat < xs.length) : getE xs i = some xs[i.toNat] := by
 unfold getE
 rw [if_neg (by omega), List.getElem?_eq_getElem h1]
theorem getE_n {α : Type} {xs : List α} {i : Nat} (h1 : i < xs.length) : getE xs (i : Int) = some xs[i] := by
 unfold getE
 rw [if_neg (by omega), Int.toNat_natCast, List.getElem?_eq_getElem h1]
theorem loop_inv {σ ρ : Type} (L : Nat → Nat → σ → Option ρ) (n : Nat) (Inv : Nat → σ → Prop) (R : ρ → Prop)
  (round : ∀ m i s, i < n → Inv i s → (∀ s', Inv (i + 1) s' → Sat (L m (i + 1) s') R) → Sat (L (m + 1) i s) R)
  (fin : ∀ m s, Inv n s → Sat (L (m + 1) n s) R) : ∀ m i s, n < m + i → i ≤ n → Inv i s → Sat (L m i s) R
 | 0, i, s, h, h2, _ => by omega
 | m + 1, i, s, h, h2, hi => by
  by_cases e : i = n
  ·subst e; exact fin m s hi
  ·exact round m i s (by omega) hi fun s' h' => loop_inv L n Inv R round fin m (i + 1) s' (by omega) (by omega) h'
theorem loop_dec {σ ρ : Type} (L : Nat → σ → Option ρ) (v : σ → Nat) (Inv : σ → Prop) (R : ρ → Prop)
  (round : ∀ m s, Inv s → (∀ s', v s' < v s → Inv s' → Sat (L m s') R) → Sat (L (m + 1) s) R) : ∀ m s, v s < m → Inv s → Sat (L m s) R
 | 0, _, h, _ => by omega
 | m + 1, s, h, hi => round m s hi fun s' h1 h2 => loop_dec L v Inv R round m s' (by omega) h2
theorem take_succ_get {α : Type} {l : List α} {i : Nat} (h : i < l.length) : l.take (i + 1) = l.take i ++ [l[i]] := by
 rw [List.take_add_one, List.getElem?_eq_getElem h]; rfl
theorem asc_ext : ∀ {a b : List Int}, a.Pairwise (· < ·) → b.Pairwise (· < ·) → (∀ x, x ∈ a ↔ x ∈ b) → a = b
 | [], [], _, _, _ => rfl
 | [], y :: b, _, _, h => by have := (h y).2 (by simp); cases this
 | x :: a, [], _, _, h => by have := (h x).1 (by simp); cases this
 | x :: a, y :: b, ha, hb, h => by
  obtain ⟨ha1, ha2⟩ := List.pairwise_cons.1 ha
  obtain ⟨hb1, hb2⟩ := List.pairwise_cons.1 hb
  have e : x = y := by
   rcases List.mem_cons.1 ((h x).1 (by simp)) with e | h1
   ·exact e
   ·rcases List.mem_cons.1 ((h y).2 (by simp)) with e | h2
    ·exact e.symm
    ·have := hb1 x h1; have := ha1 y h2; omega
  subst e
  rw [asc_ext ha2 hb2 fun z => ?_]
  constructor
  ·intro hz
   rcases List.mem_cons.1 ((h z).1 (by simp [hz])) with e | h1
   ·subst e; exact absurd (ha1 z hz) (by omega)
   ·exact h1
  ·intro hz
   rcases List.mem_cons.1 ((h z).2 (by simp [hz])) with e | h1
   ·subst e; exact absurd (hb1 z hz) (by omega)
   ·exact h1
theorem asc_nodup {a : List Int} (h : a.Pairwise (· < ·)) : a.Nodup := h.imp fun h => by omega
theorem fp_mem {α β : Type} [DecidableEq α] (a : α) (L : List (α × β)) : (∃ i b, fp a L 0 = some (i, b) ∧ L[i]? = some (a, b)) ∨ (fp a L 0 = none ∧ a ∉ L.map (·.1)) := by
 cases h : fp a L 0 with
 | none => exact .inr ⟨rfl, fun h1 => by
   obtain ⟨p, h2, h3⟩ := List.mem_map.1 h1
   exact (fp_none a L).1 h p h2 h3⟩
 | some q => obtain ⟨i, b⟩ := q; exact .inl ⟨i, b, rfl, (fp_at a L 0 i b h).2⟩
theorem upL_keys {α β : Type} [DecidableEq α] (L : List (α × β)) (a : α) (b : β) : (upL L a b).map (·.1) = if a ∈ L.map (·.1) then L.map (·.1) else L.map (·.1) ++ [a] := by
 unfold upL
 rcases fp_mem a L with ⟨i, c, h1, h2⟩ | ⟨h1, h2⟩
 ·have hm : a ∈ L.map (·.1) := List.mem_map.2 ⟨_, List.mem_of_getElem? h2, rfl⟩
  rw [h1, if_pos hm]
  show (L.set i (a, b)).map (·.1) = _
  rw [List.map_set]
  apply List.ext_getElem?
  intro j
  by_cases e : i = j
  ·subst e
   have hlt := (List.getElem?_eq_some_iff.1 h2).1
   rw [List.getElem?_set_self (by simpa using hlt), List.getElem?_map, h2]; rfl
  ·rw [List.getElem?_set_ne e]
 ·rw [h1, if_neg h2]
  show (L ++ [(a, b)]).map (·.1) = _
  rw [List.map_append]; rfl
theorem upL_mem {α β : Type} [DecidableEq α] (L : List (α × β)) (a : α) (b : β) (x : α) : x ∈ (upL L a b).map (·.1) ↔ x = a ∨ x ∈ L.map (·.1) := by
 rw [upL_keys]
 split
 ·constructor
  ·exact .inr
  ·rintro (rfl | h) <;> assumption
 ·rw [List.mem_append, List.mem_singleton]; exact Or.comm
end Go.Proofs.YtmbaennilhdieaaGreat
/- The examples of the specification, by computation. -/
namespace Go.Proofs.YtmbaennilhdieaaGreat
open Go.RowKit
end Go.Proofs.YtmbaennilhdieaaGreat
/- Plain: references of a cell, on both sides. -/
namespace Go.Proofs.YtmbaennilhdieaaGreat
open Go.RowKit
theorem getE_nat {α : Type} (xs : List α) (i : Nat) : getE xs (i : Int) = xs[i]? := by
 unfold getE; rw [if_neg (by omega)]; simp
theorem req_pos {ρ : Type} {b : Prop} [Decidable b] {m : Option ρ} (h : b) : req b m = m := if_pos h
def hasB (v : DValue) : Bool := decide (v.Kind = 7) || decide (v.Kind = 9)
def strongB (k : Int) (i : Nat) : Bool := !decide (k = 8) && (!decide (k = 10) || decide ((i : Int).tmod 2 = 0))
def pick (f : Nat → DValue → Bool) : Nat → List DValue → List Int
 | _, [] => []
 | i, v :: l => (bif f i v then [v.N] else []) ++ pick f (i + 1) l
theorem pick_cons (f : Nat → DValue → Bool) (i : Nat) (v : DValue) (l : List DValue) : pick f i (v :: l) = (bif f i v then [v.N] else []) ++ pick f (i + 1) l := rfl
theorem pick_len (f : Nat → DValue → Bool) : ∀ (i : Nat) (l : List DValue), (pick f i l).length ≤ l.length
 | _, [] => Nat.le_refl _
 | i, v :: l => by
  have := pick_len f (i + 1) l
  unfold pick
  cases f i v <;> simp <;> omega
theorem pick_none : ∀ (i : Nat) (l : List DValue), pick (fun _ _ => false) i l = []
 | _, [] => rfl
 | i, v :: l => by unfold pick; simp [pick_none (i + 1) l]
theorem cell_leads_spec (N : Nat) (v : DValue) : cell_leads_O N v = some (hasB v) := by
 unfold cell_leads_O hasB; cases decide (v.Kind = 7) <;> rfl
theorem ref_has_spec (N : Nat) (v : DValue) : r15_has_O N v = some (hasB v) := by
 unfold r15_has_O hasB; cases decide (v.Kind = 7) <;> rfl
theorem body_spec (N : Nat) (a b : Bool) (x : DValue) (p : List Int) (h : p.length ≤ 5000) : liftR (fun x st => cell_addresses_b8 N a x st) (b, x) (none, p) = some (true, (none, p ++ (bif (b == a) && hasB x then [x.N] else []))) := by
 unfold liftR cell_addresses_b8
 simp only [cell_leads_spec, Option.bind_some]
 cases b == a
 ·simp
 ·cases hasB x
  ·simp
  ·have : fitsL (p.length + [x.N].length) := by unfold fitsL; simp only [List.length_cons, List.length_nil]; omega
   simp only [cond_true, Option.bind_some, Bool.and_self]
   rw [req_pos this]
   rfl
theorem all_l15 (N : Nat) (a : Bool) (c : DCell) (hc : c.More.length ≤ 1000) (K : Nat) (hK : K ≤ 1000) : ∀ (m i : Nat) (p : List Int), c.More.length < m + i → i ≤ c.More.length → p.length ≤ K + i → cell_all_c1_l15 N (liftR (fun x st => cell_addresses_b8 N a x st)) c m (i : Int) (none, p) = some (none, p ++ pick (fun i v => (strongB c.Kind i == a) && hasB v) i (c.More.drop i))
 | 0, i, p, h, h2, _ => by omega
 | m + 1, i, p, h, h2, h3 => by
  rw [cell_all_c1_l15_s]
  by_cases hi : i < c.More.length
  ·rw [show (decide ((i : Int) < (c.More.length : Int))) = true from decide_eq_true (by omega), getE_nat, List.getElem?_eq_getElem hi, List.drop_eq_getElem_cons hi]
   simp only [cond_true, Option.bind_some]
   have hs : (bif !decide (c.Kind = 8) then ((bif !decide (c.Kind = 10) then (some true) else (some (decide ((i : Int).tmod 2 = 0)))).bind fun b22 => some b22) else (some false)) = some (strongB c.Kind i) := by
    unfold strongB; cases decide (c.Kind = 8) <;> cases decide (c.Kind = 10) <;> rfl
   rw [hs]
   simp only [Option.bind_some]
   rw [body_spec N a _ _ _ (by omega)]
   rw [Option.bind_some]
   dsimp only
   rw [Bool.not_true, cond_false]
   rw [req_pos (by unfold in64; omega)]
   have hlen : (p ++ (bif (strongB c.Kind i == a) && hasB c.More[i] then [c.More[i].N] else [])).length ≤ K + (i + 1) := by
    cases (strongB c.Kind i == a) && hasB c.More[i] <;> simp <;> omega
   have := all_l15 N a c hc K hK m (i + 1) _ (by omega) hi hlen
   simp only [Int.natCast_add, Int.cast_ofNat_Int] at this
   rw [this]
   rw [pick_cons, List.append_assoc]
  ·rw [show (decide ((i : Int) < (c.More.length : Int))) = false from decide_eq_false (by omega), List.drop_eq_nil_of_le (by omega)]
   simp [pick]
theorem all_l6 (N : Nat) (hN : 2000 < N) (a : Bool) (c : DCell) (hS : c.Slots.length ≤ 1000) (hc : c.More.length ≤ 1000) : ∀ (m i : Nat) (p : List Int), c.Slots.length < m + i → i ≤ c.Slots.length → p.length ≤ i → cell_all_c1_l6 N (liftR (fun x st => cell_addresses_b8 N a x st)) c m (i : Int) (none, p) = some (none, (p ++ pick (fun _ v => (true == a) && hasB v) i (c.Slots.drop i)) ++ pick (fun i v => (strongB c.Kind i == a) && hasB v) 0 c.More)
 | 0, i, p, h, h2, _ => by omega
 | m + 1, i, p, h, h2, h3 => by
  rw [cell_all_c1_l6_s]
  by_cases hi : i < c.Slots.length
  ·rw [show (decide ((i : Int) < (c.Slots.length : Int))) = true from decide_eq_true (by omega), getE_nat, List.getElem?_eq_getElem hi, List.drop_eq_getElem_cons hi]
   simp only [cond_true, Option.bind_some]
   rw [body_spec N a _ _ _ (by omega)]
   rw [Option.bind_some]
   dsimp only
   rw [Bool.not_true, cond_false]
   rw [req_pos (by unfold in64; omega)]
   have hlen : (p ++ (bif (true == a) && hasB c.Slots[i] then [c.Slots[i].N] else [])).length ≤ (i + 1) := by
    cases (true == a) && hasB c.Slots[i] <;> simp <;> omega
   have := all_l6 N hN a c hS hc m (i + 1) _ (by omega) hi hlen
   simp only [Int.natCast_add, Int.cast_ofNat_Int] at this
   rw [this]
   rw [pick_cons, List.append_assoc p]
  ·rw [show (decide ((i : Int) < (c.Slots.length : Int))) = false from decide_eq_false (by omega), List.drop_eq_nil_of_le (by omega)]
   simp only [cond_false, cell_all_c1_j4]
   have := all_l15 N a c hc p.length (by omega) N 0 p (by omega) (by omega) (by omega)
   simp only [Int.natCast_zero, Int.cast_ofNat_Int] at this
   rw [this]
   simp [pick]
theorem addresses_spec (N : Nat) (hN : 2000 < N) (a : Bool) (c : DCell) (hS : c.Slots.length ≤ 1000) (hc : c.More.length ≤ 1000) : cell_addresses_O N c a = some (pick (fun _ v => (true == a) && hasB v) 0 c.Slots ++ pick (fun i v => (strongB c.Kind i == a) && hasB v) 0 c.More) := by
 unfold cell_addresses_O cell_all_O cell_all_c1_O
 have := all_l6 N hN a c hS hc N 0 [] (by omega) (by omega) (by simp)
 simp only [Int.natCast_zero, Int.cast_ofNat_Int] at this
 rw [Option.bind_some, this, Option.bind_some]
 show some _ = some _
 simp
def weakB (k : Int) (i : Nat) : Bool := decide (k = 8) || (decide (k = 10) && (decide (0 < (i : Int)) && decide ((((i : Int) - 1).tmod 4).tmod 2 = 0)))
theorem weak_spec (N : Nat) (k : Int) (i : Nat) (hi : i ≤ 5000) : r15_weak_O N k (i : Int) = some (weakB k i) := by
 unfold r15_weak_O weakB
 by_cases h1 : k = 8
 ·simp [h1]
 ·by_cases h2 : k = 10
  ·by_cases h3 : (0 : Int) < i
   ·subst h2; simp only [h3, decide_true, ct, bs, r64 (a := (i : Int) - 1) (by omega) (by omega), show decide ((10 : Int) = 8) = false from rfl, cf, Bool.false_or, Bool.true_and]
   ·subst h2; simp only [h3, decide_true, decide_false, ct, bs, show decide ((10 : Int) = 8) = false from rfl, cf, Bool.false_or, Bool.true_and, Bool.false_and]
  ·simp [h1, h2]
theorem ref_leads_spec (N : Nat) (hN : 2000 < N) (c : DCell) (hS : c.Slots.length ≤ 1000) (hc : c.More.length ≤ 1000) : r15_Leads_O N c = some (pick (fun _ v => hasB v) 0 c.Slots ++ pick (fun i v => !weakB c.Kind i && hasB v) 0 c.More) := by
 apply Sat.eq
 unfold r15_Leads_O
 refine loop_inv (fun m i s => r15_Leads_l6 N c m s (i : Int)) c.Slots.length (fun i s => s ++ pick (fun _ v => hasB v) i (c.Slots.drop i) = pick (fun _ v => hasB v) 0 c.Slots ∧ s.length ≤ i) _ ?_ ?_ N 0 [] (by omega) (by omega) ⟨by simp, by simp⟩
 ·rintro m i s hi ⟨h1, h2⟩ k
  show Sat (r15_Leads_l6 N c (m + 1) s i) _
  rw [List.drop_eq_getElem_cons hi, pick_cons] at h1
  rw [r15_Leads_l6_s, lt_t (by omega), cond_true, getE_n hi, bs, ref_has_spec, bs]
  simp only [bs]
  cases hh : hasB c.Slots[i]
  all_goals
   simp only [hh, ct, cf, bs, List.nil_append] at h1 ⊢
   first
   |(unfold r15_Leads_j11
     rw [r64 (by omega) (by omega)]
     exact k s ⟨h1, by omega⟩)
   |(rw [rF (by simp; omega)]
     unfold r15_Leads_j11
     rw [r64 (by omega) (by omega)]
     exact k _ ⟨by rw [List.append_assoc]; exact h1, by simp; omega⟩)
 ·rintro m s ⟨h1, h2⟩
  show Sat (r15_Leads_l6 N c (m + 1) s _) _
  rw [List.drop_length] at h1
  have h1 : s = pick (fun _ v => hasB v) 0 c.Slots := by rw [← h1]; simp [pick]
  rw [r15_Leads_l6_s, lt_f (by omega), cond_false, ← h1]
  unfold r15_Leads_j4
  clear h1
  refine loop_inv (fun m i s => r15_Leads_l23 N c m s (i : Int)) c.More.length (fun i t => t ++ pick (fun i v => !weakB c.Kind i && hasB v) i (c.More.drop i) = s ++ pick (fun i v => !weakB c.Kind i && hasB v) 0 c.More ∧ t.length ≤ 1000 + i) _ ?_ ?_ N 0 s (by omega) (by omega) ⟨by simp, by omega⟩
  ·rintro m i s hi ⟨h1, h2⟩ k
   show Sat (r15_Leads_l23 N c (m + 1) s i) _
   rw [List.drop_eq_getElem_cons hi, pick_cons] at h1
   rw [r15_Leads_l23_s, lt_t (by omega), cond_true, getE_n hi, bs, ref_has_spec, bs, weak_spec _ _ _ (by omega)]
   simp only [bs]
   cases hh : hasB c.More[i] <;> cases hw : weakB c.Kind i
   all_goals
    simp only [hh, hw, Bool.and_true, Bool.and_false, nt, nf, ct, cf, bs, List.nil_append] at h1 ⊢
    first
    |(unfold r15_Leads_j27
      rw [r64 (by omega) (by omega)]
      exact k s ⟨h1, by omega⟩)
    |(rw [rF (by simp; omega)]
      unfold r15_Leads_j27
      rw [r64 (by omega) (by omega)]
      exact k _ ⟨by rw [List.append_assoc]; exact h1, by simp; omega⟩)
  ·rintro m s ⟨h1, h2⟩
   show Sat (r15_Leads_l23 N c (m + 1) s _) _
   rw [List.drop_length] at h1
   rw [r15_Leads_l23_s, lt_f (by omega), cond_false]
   exact sat_some (by rw [← h1]; simp [pick])
theorem strong_weak (k : Int) (i : Nat) : strongB k i = !weakB k i := by
 unfold strongB weakB
 by_cases h8 : k = 8
 ·subst h8; rfl
 ·by_cases h10 : k = 10
  ·subst h10
   have e0 : (i : Int).tmod 2 = (i : Int) % 2 := Int.tmod_eq_emod_of_nonneg (by omega)
   by_cases hi : (0 : Int) < i
   ·have e1 : ((i : Int) - 1).tmod 4 = ((i : Int) - 1) % 4 := Int.tmod_eq_emod_of_nonneg (by omega)
    have e2 : (((i : Int) - 1) % 4).tmod 2 = (((i : Int) - 1) % 4) % 2 := Int.tmod_eq_emod_of_nonneg (by omega)
    rw [e0, e1, e2]
    by_cases h : (i : Int) % 2 = 0
    ·have h2 : ¬ (((i : Int) - 1) % 4) % 2 = 0 := by omega
     rw [decide_eq_true h, decide_eq_false h2, decide_eq_true hi]; rfl
    ·have h2 : (((i : Int) - 1) % 4) % 2 = 0 := by omega
     rw [decide_eq_false h, decide_eq_true h2, decide_eq_true hi]; rfl
   ·have : i = 0 := by omega
    subst this; rfl
  ·simp [h8, h10]
def leadsL (c : DCell) : List Int := pick (fun _ v => hasB v) 0 c.Slots ++ pick (fun i v => !weakB c.Kind i && hasB v) 0 c.More
theorem leads_prog (N : Nat) (hN : 2000 < N) (c : DCell) (hS : c.Slots.length ≤ 1000) (hc : c.More.length ≤ 1000) : cell_Leads_O N c = some (leadsL c) := by
 unfold cell_Leads_O leadsL
 rw [addresses_spec N hN true c hS hc, bs]
 have e1 : (fun (_ : Nat) (v : DValue) => (true == true) && hasB v) = fun _ v => hasB v := by funext i v; rfl
 have e2 : (fun (i : Nat) (v : DValue) => (strongB c.Kind i == true) && hasB v) = fun i v => !weakB c.Kind i && hasB v := by funext i v; rw [strong_weak]; cases weakB c.Kind i <;> rfl
 rw [e1, e2]
theorem leads_ref (N : Nat) (hN : 2000 < N) (c : DCell) (hS : c.Slots.length ≤ 1000) (hc : c.More.length ≤ 1000) : r15_Leads_O N c = some (leadsL c) := ref_leads_spec N hN c hS hc
theorem leadsL_len (c : DCell) : (leadsL c).length ≤ c.Slots.length + c.More.length := by
 unfold leadsL
 have h1 := pick_len (fun _ v => hasB v) 0 c.Slots
 have h2 := pick_len (fun i v => !weakB c.Kind i && hasB v) 0 c.More
 rw [List.length_append]; omega
theorem pick_mem {f : Nat → DValue → Bool} {x : Int} : ∀ {i : Nat} {l : List DValue}, x ∈ pick f i l → ∃ v ∈ l, v.N = x
 | _, [], h => by cases h
 | i, v :: l, h => by
  rw [pick_cons, List.mem_append] at h
  rcases h with h | h
  ·cases hf : f i v
   ·rw [hf] at h; cases h
   ·rw [hf] at h; exact ⟨v, by simp, (List.mem_singleton.1 h).symm⟩
  ·obtain ⟨w, h1, h2⟩ := pick_mem h
   exact ⟨w, by simp [h1], h2⟩
theorem leadsL_mem {c : DCell} {x : Int} (h : x ∈ leadsL c) : ∃ v ∈ c.Slots ++ c.More, v.N = x := by
 unfold leadsL at h
 rcases List.mem_append.1 h with h | h
 ·obtain ⟨v, h1, h2⟩ := pick_mem h; exact ⟨v, by simp [h1], h2⟩
 ·obtain ⟨v, h1, h2⟩ := pick_mem h; exact ⟨v, by simp [h1], h2⟩
end Go.Proofs.YtmbaennilhdieaaGreat