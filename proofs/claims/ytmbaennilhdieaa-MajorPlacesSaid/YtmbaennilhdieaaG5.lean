/- Merged texts: part 5. No conditions of their own. -/
import Derived.Test.YtmbaennilhdieaaG4
/- Pure functions and contracts of Go functions (printed by all3.py). -/
namespace Go.Proofs.Ytmbaennilhdieaa
open Go.RowKit Asn
set_option maxRecDepth 20000

def major_check_j38 (N : Nat) (a0 : DMemory) (p39 : (List Int)) : Option Int :=
  (slices_ContainsFunc_O N p39 (fun x => major_check_c1_O N x a0)).bind fun y54 => bif y54 then (some 50) else (some 0)
def major_check_j44 (N : Nat) (kb40 : (List Int) → Int → Option Int) (a1 : (List DValue)) (p42 : Int) (a0 : DMemory) (p45 : (List Int)) : Option Int :=
  req (in64 (p42 + 1)) (kb40 p45 (p42 + 1))
def major_check_l40 (N : Nat) (a1 : (List DValue)) (a0 : DMemory) : Nat → (List Int) → Int → Option Int
  | 0, _, _ => none
  | m40 + 1, p41, p42 => bif decide (p42 < (a1.length : Int)) then ((getE a1 p42).bind fun x46 => (bif decide (x46.Kind = 7) then (some true) else (some (decide (x46.Kind = 9)))).bind fun b48 => bif b48 then (req (fitsL (p41.length + ([x46.N] : List Int).length)) (major_check_j44 N (major_check_l40 N a1 a0 m40) a1 p42 a0 (p41 ++ ([x46.N] : List Int)))) else (major_check_j44 N (major_check_l40 N a1 a0 m40) a1 p42 a0 p41)) else (major_check_j38 N a0 p41)
theorem major_check_l40_s {N m40 : Nat} {a1 : (List DValue)} {a0 : DMemory} {p41 : (List Int)} {p42 : Int} : major_check_l40 N a1 a0 (m40 + 1) p41 p42 = bif decide (p42 < (a1.length : Int)) then ((getE a1 p42).bind fun x46 => (bif decide (x46.Kind = 7) then (some true) else (some (decide (x46.Kind = 9)))).bind fun b48 => bif b48 then (req (fitsL (p41.length + ([x46.N] : List Int).length)) (major_check_j44 N (major_check_l40 N a1 a0 m40) a1 p42 a0 (p41 ++ ([x46.N] : List Int)))) else (major_check_j44 N (major_check_l40 N a1 a0 m40) a1 p42 a0 p41)) else (major_check_j38 N a0 p41) := rfl
def major_check_j5 (N : Nat) (a1 : (List DValue)) (a0 : DMemory) (p6 : (List Int)) : Option Int :=
  major_check_l40 N a1 a0 N p6 0
def major_check_j13 (N : Nat) (kb8 : (List Int) → Int → Option Int) (a0 : DMemory) (p10 : Int) (a1 : (List DValue)) (p14 : (List Int)) : Option Int :=
  req (in64 (p10 + 1)) (kb8 p14 (p10 + 1))
def major_check_l17 (N : Nat) (kb8 : (List Int) → Int → Option Int) (a0 : DMemory) (p10 : Int) (x15 : (List DCell)) (a1 : (List DValue)) : Nat → (List Int) → Int → Option Int
  | 0, _, _ => none
  | m17 + 1, p18, p19 => bif decide (p19 < (x15.length : Int)) then ((getE x15 p19).bind fun x21 => (cell_Right_O N x21).bind fun y26 => bif !y26 then (some 51) else ((cell_Leads_O N x21).bind fun y28 => req (fitsL (p18.length + y28.length)) ((cell_Weakly_O N x21).bind fun y32 => req (fitsL ((p18 ++ y28).length + y32.length)) (req (in64 (p19 + 1)) ((major_check_l17 N kb8 a0 p10 x15 a1 m17) ((p18 ++ y28) ++ y32) (p19 + 1)))))) else (major_check_j13 N kb8 a0 p10 a1 p18)
theorem major_check_l17_s {N m17 : Nat} {kb8 : (List Int) → Int → Option Int} {a0 : DMemory} {p10 : Int} {x15 : (List DCell)} {a1 : (List DValue)} {p18 : (List Int)} {p19 : Int} : major_check_l17 N kb8 a0 p10 x15 a1 (m17 + 1) p18 p19 = bif decide (p19 < (x15.length : Int)) then ((getE x15 p19).bind fun x21 => (cell_Right_O N x21).bind fun y26 => bif !y26 then (some 51) else ((cell_Leads_O N x21).bind fun y28 => req (fitsL (p18.length + y28.length)) ((cell_Weakly_O N x21).bind fun y32 => req (fitsL ((p18 ++ y28).length + y32.length)) (req (in64 (p19 + 1)) ((major_check_l17 N kb8 a0 p10 x15 a1 m17) ((p18 ++ y28) ++ y32) (p19 + 1)))))) else (major_check_j13 N kb8 a0 p10 a1 p18) := rfl
def major_check_l8 (N : Nat) (a0 : DMemory) (a1 : (List DValue)) : Nat → (List Int) → Int → Option Int
  | 0, _, _ => none
  | m8 + 1, p9, p10 => bif decide (p10 < (([a0.Young, a0.Old] : List (List DCell)).length : Int)) then ((getE ([a0.Young, a0.Old] : List (List DCell)) p10).bind fun x15 => major_check_l17 N (major_check_l8 N a0 a1 m8) a0 p10 x15 a1 N p9 0) else (major_check_j5 N a1 a0 p9)
theorem major_check_l8_s {N m8 : Nat} {a0 : DMemory} {a1 : (List DValue)} {p9 : (List Int)} {p10 : Int} : major_check_l8 N a0 a1 (m8 + 1) p9 p10 = bif decide (p10 < (([a0.Young, a0.Old] : List (List DCell)).length : Int)) then ((getE ([a0.Young, a0.Old] : List (List DCell)) p10).bind fun x15 => major_check_l17 N (major_check_l8 N a0 a1 m8) a0 p10 x15 a1 N p9 0) else (major_check_j5 N a1 a0 p9) := rfl
def major_check_O (N : Nat) (a0 : DMemory) (a1 : (List DValue)) : Option Int :=
  major_check_l8 N a0 a1 N [] 0
theorem major_check_ok {N : Nat} {a0 : DMemory} {a1 : (List DValue)} {r : Int} (h : major_check_O N a0 a1 = some r) {A1 : Option Addr} {n1 c1 : Nat} {A2 : Option Addr} {n2 c2 : Nat} {A3 : Option Addr} {n3 c3 : Nat} : Okc Try.prog 102 [.agg #[.slice A1 n1 c1, .slice A2 n2 c2], .slice A3 n3 c3] ([slC rDCell (.slice A1 n1 c1) a0.Young, slC rDCell (.slice A2 n2 c2) a0.Old, slC rDValue (.slice A3 n3 c3) a1]) (fun (u : Value) (post : List Chunk) => u = .int .i64 r ∧ post = []) := by
  refine ok_E Try.func102 rfl rfl ?_
  simp only [envOf]
  refine run ?_
  refine G_opd (op_box rfl rfl) rfl rfl rfl ?_
  rintro _ _ ⟨B4, rfl, rfl⟩
  refine run ?_
  refine G_joinF (fun s L => ∃ (p6 : (List Int)) (A6 : Option Addr) (n6 c6 : Nat), major_check_j5 N a1 a0 p6 = some r ∧ s = [(1, .slice A3 n3 c3), (2, .pointer (some ⟨B4, 0, none⟩)), (4, .int .i64 0), (5, .slice A6 n6 c6)] ∧ L = [slC rDValue (.slice A3 n3 c3) a1, ownC (rInt .i64) 3 (.slice A6 n6 c6) p6, slC rDCell (.slice A1 n1 c1) a0.Young, slC rDCell (.slice A2 n2 c2) a0.Old, boxC B4 24 [.slice A1 n1 c1, .slice A2 n2 c2]]) ?_ ?_
  · refine run ?_
    refine G_opd (op_bslice (R := (Rep.sl rDCell)) (vss := [[.slice A1 n1 c1], [.slice A2 n2 c2]]) (xs := [a0.Young, a0.Old]) rfl (bsl_147_2 _ _ _ _ _ _) rfl rfl (fun _ _ hr => .cons (⟨_, rfl, hr 1 _ rfl rfl⟩) (.cons (⟨_, rfl, hr 2 _ rfl rfl⟩) All2.nil))) rfl rfl rfl ?_
    rintro _ _ ⟨A7, n7, c7, rfl, rfl⟩
    refine G_rd (rd_len 0 rfl els_own rfl Try.underlying147) rfl rfl rfl ?_
    refine run ?_
    refine G_loopF (fun m s L => ∃ (p9 : (List Int)) (p10 : Int) (A9 : Option Addr) (n9 c9 : Nat), major_check_l8 N a0 a1 m p9 p10 = some r ∧ s = [(1, .slice A3 n3 c3), (2, .pointer (some ⟨B4, 0, none⟩)), (4, .int .i64 0), (5, .slice A9 n9 c9), (16, .slice A7 n7 c7), (17, .int .i64 (([a0.Young, a0.Old] : List (List DCell)).length : Int)), (18, .int .i64 p10)] ∧ L = [slC rDValue (.slice A3 n3 c3) a1, ownC (rInt .i64) 3 (.slice A9 n9 c9) p9, ownC (Rep.sl rDCell) 22 (.slice A7 n7 c7) ([a0.Young, a0.Old] : List (List DCell)), slC rDCell (.slice A1 n1 c1) a0.Young, slC rDCell (.slice A2 n2 c2) a0.Old, boxC B4 24 [.slice A1 n1 c1, .slice A2 n2 c2]]) N _ _ ⟨[], 0, none, 0, 0, h, rfl, rfl⟩ (sub_cons rfl (sub_cons rfl (sub_cons rfl (sub_cons rfl (sub_cons rfl (sub_cons rfl (sub_cons rfl sub_nil))))))) ((cv_nil (rInt .i64) 3 _).trans (cv_sel [5, 0, 1, 3, 4, 2] 6 rfl rfl)) ?_
    rintro (_ | m8) _ _ ⟨p9, p10, A9, n9, c9, h, rfl, rfl⟩
    · exact none_some h
    rw [major_check_l8_s] at h
    refine run ?_
    refine G_seq ?_
    refine G_cond rfl (fun g12 => ?_) (fun g12 => ?_)
    · replace h := cond_t g12 h
      refine run ?_
      refine G_joinF (fun s L => ∃ (p14 : (List Int)) (A14 : Option Addr) (n14 c14 : Nat), major_check_j13 N (major_check_l8 N a0 a1 m8) a0 p10 a1 p14 = some r ∧ s = [(1, .slice A3 n3 c3), (2, .pointer (some ⟨B4, 0, none⟩)), (4, .int .i64 0), (5, .slice A14 n14 c14), (16, .slice A7 n7 c7), (17, .int .i64 (([a0.Young, a0.Old] : List (List DCell)).length : Int)), (18, .int .i64 p10)] ∧ L = [slC rDValue (.slice A3 n3 c3) a1, ownC (rInt .i64) 3 (.slice A14 n14 c14) p14, ownC (Rep.sl rDCell) 22 (.slice A7 n7 c7) ([a0.Young, a0.Old] : List (List DCell)), slC rDCell (.slice A1 n1 c1) a0.Young, slC rDCell (.slice A2 n2 c2) a0.Old, boxC B4 24 [.slice A1 n1 c1, .slice A2 n2 c2]]) ?_ ?_
      · refine run ?_
        obtain ⟨x15, hx15, h⟩ := bind_elim h
        obtain ⟨lx15, ux15, hx15⟩ := getE_elim hx15
        refine G_rd (rd_idx 2 rfl els_own rfl rfl Try.underlying147 size22 lx15 ux15) rfl rfl rfl ?_
        refine G_opd (op_elemL (R' := rDCell) (ys := x15) 2 rfl els_own rfl hx15 one22 (fun _ _ _ h => by obtain ⟨u, e, k⟩ := h; exact ⟨u, by rw [e]; rfl, k⟩)) rfl rfl rfl ?_
        rintro _ _ ⟨A16, n16, c16, rfl, rfl⟩
        refine run ?_
        refine G_rd (rd_len 0 rfl els_sl rfl Try.underlying22) rfl rfl rfl ?_
        refine run ?_
        refine G_loopF (fun m s L => ∃ (p18 : (List Int)) (p19 : Int) (A18 : Option Addr) (n18 c18 : Nat), major_check_l17 N (major_check_l8 N a0 a1 m8) a0 p10 x15 a1 m p18 p19 = some r ∧ s = [(1, .slice A3 n3 c3), (2, .pointer (some ⟨B4, 0, none⟩)), (4, .int .i64 0), (5, .slice A18 n18 c18), (16, .slice A7 n7 c7), (17, .int .i64 (([a0.Young, a0.Old] : List (List DCell)).length : Int)), (18, .int .i64 p10), (22, .slice A16 n16 c16), (23, .int .i64 (x15.length : Int)), (24, .int .i64 p19)] ∧ L = [slC rDValue (.slice A3 n3 c3) a1, ownC (rInt .i64) 3 (.slice A18 n18 c18) p18, ownC (Rep.sl rDCell) 22 (.slice A7 n7 c7) ([a0.Young, a0.Old] : List (List DCell)), slC rDCell (.slice A16 n16 c16) x15, slC rDCell (.slice A1 n1 c1) a0.Young, slC rDCell (.slice A2 n2 c2) a0.Old, boxC B4 24 [.slice A1 n1 c1, .slice A2 n2 c2]]) N _ _ ⟨p9, 0, A9, n9, c9, h, rfl, rfl⟩ (sub_cons rfl (sub_cons rfl (sub_cons rfl (sub_cons rfl (sub_cons rfl (sub_cons rfl (sub_cons rfl (sub_cons rfl (sub_cons rfl (sub_cons rfl sub_nil)))))))))) (cv_sel [1, 2, 3, 0, 4, 5, 6] 7 rfl rfl) ?_
        rintro (_ | m17) _ _ ⟨p18, p19, A18, n18, c18, h, rfl, rfl⟩
        · exact none_some h
        rw [major_check_l17_s] at h
        refine run ?_
        refine G_seq ?_
        refine G_cond rfl (fun g20 => ?_) (fun g20 => ?_)
        · replace h := cond_t g20 h
          refine run ?_
          refine G_seq ?_
          refine run ?_
          obtain ⟨x21, hx21, h⟩ := bind_elim h
          obtain ⟨lx21, ux21, hx21⟩ := getE_elim hx21
          refine G_rd (rd_idx 3 rfl els_sl rfl rfl Try.underlying22 size42 lx21 ux21) rfl rfl rfl ?_
          refine G_row 3 rfl hx21 (open_DCell x21) ?_
          rintro _ _ ⟨A22, n22, c22, A23, n23, c23, rfl, rfl⟩
          refine G_rd (rd_rowS (us := [.int .i64 x21.Kind, .int .i64 x21.Shape, .int .i64 x21.Flags, .int .i64 x21.Age, .slice A22 n22 c22, .slice A23 n23 c23]) 0 rfl rfl agg42 rfl) rfl rfl rfl ?_
          refine G_opd (op_alloc zero42 rfl) rfl rfl rfl ?_
          rintro _ _ ⟨B25, rfl, rfl⟩
          refine G_opn (op_store (us := [.int .i64 x21.Kind, .int .i64 x21.Shape, .int .i64 x21.Flags, .int .i64 x21.Age, .slice A22 n22 c22, .slice A23 n23 c23]) (cs' := [.int .i64 x21.Kind, .int .i64 x21.Shape, .int .i64 x21.Flags, .int .i64 x21.Age, .slice A22 n22 c22, .slice A23 n23 c23]) 0 rfl rfl rfl rfl size42 rfl rfl rfl) rfl rfl ?_
          rintro _ _ rfl
          refine G_norm ([boxC B25 42 [.int .i64 x21.Kind, .int .i64 x21.Shape, .int .i64 x21.Flags, .int .i64 x21.Age, .slice A22 n22 c22, .slice A23 n23 c23], rowC (elemQ (.slice A16 n16 c16) p19.toNat 6 0) [.int .i64 x21.Kind, .int .i64 x21.Shape, .int .i64 x21.Flags, .int .i64 x21.Age, .slice A22 n22 c22, .slice A23 n23 c23], slC rDValue (.slice A22 n22 c22) x21.Slots, slC rDValue (.slice A23 n23 c23) x21.More, slC rDValue (.slice A3 n3 c3) a1, ownC (rInt .i64) 3 (.slice A18 n18 c18) p18, ownC (Rep.sl rDCell) 22 (.slice A7 n7 c7) ([a0.Young, a0.Old] : List (List DCell)), slC rDCell (.slice A16 n16 c16) x15, slC rDCell (.slice A1 n1 c1) a0.Young, slC rDCell (.slice A2 n2 c2) a0.Old, boxC B4 24 [.slice A1 n1 c1, .slice A2 n2 c2]]) rfl ?_
          refine run ?_
          refine G_seq ?_
          refine run ?_
          refine G_rd (rd_boxS (us := [.int .i64 x21.Kind, .int .i64 x21.Shape, .int .i64 x21.Flags, .int .i64 x21.Age, .slice A22 n22 c22, .slice A23 n23 c23]) 0 rfl rfl agg42 rfl) rfl rfl rfl ?_
          obtain ⟨y26, hy26, h⟩ := bind_elim h
          refine G_opd (op_callR (cell_Right_ok hy26) call98 rfl (mem_cons (lent_ro (i := 2) rfl rfl) (mem_cons (lent_ro (i := 3) rfl rfl) mem_nil)) cell_Right_free) rfl rfl rfl ?_
          rintro _ _ ⟨_, ⟨rfl, rfl⟩, rfl⟩
          refine run ?_
          refine G_cond rfl (fun g27 => ?_) (fun g27 => ?_)
          · replace h := cond_t g27 h
            refine run ?_
            obtain rfl := Option.some.inj h
            exact endG1 rfl rfl (cv_sel [] 11 rfl rfl) ⟨rfl, rfl⟩
          · replace h := cond_f g27 h
            refine run ?_
            refine G_drawn (by kernel_rfl) ([boxC B25 42 [.int .i64 x21.Kind, .int .i64 x21.Shape, .int .i64 x21.Flags, .int .i64 x21.Age, .slice A22 n22 c22, .slice A23 n23 c23], rowC (elemQ (.slice A16 n16 c16) p19.toNat 6 0) [.int .i64 x21.Kind, .int .i64 x21.Shape, .int .i64 x21.Flags, .int .i64 x21.Age, .slice A22 n22 c22, .slice A23 n23 c23], slC rDValue (.slice A22 n22 c22) x21.Slots, slC rDValue (.slice A23 n23 c23) x21.More, slC rDValue (.slice A3 n3 c3) a1, ownC (Rep.sl rDCell) 22 (.slice A7 n7 c7) ([a0.Young, a0.Old] : List (List DCell)), slC rDCell (.slice A16 n16 c16) x15, slC rDCell (.slice A1 n1 c1) a0.Young, slC rDCell (.slice A2 n2 c2) a0.Old, boxC B4 24 [.slice A1 n1 c1, .slice A2 n2 c2]]) (cv_sel [0, 1, 2, 3, 4, 6, 7, 8, 9, 10] 11 rfl rfl) ?_
            refine T3_ev 0 rfl (by kernel_rfl) (ev_move rfl) rfl rfl ?_
            refine T3_rd 1 rfl (by kernel_rfl) (rd_boxS (us := [.int .i64 x21.Kind, .int .i64 x21.Shape, .int .i64 x21.Flags, .int .i64 x21.Age, .slice A22 n22 c22, .slice A23 n23 c23]) 0 rfl rfl agg42 rfl) rfl rfl ?_
            refine T3_rd 4 rfl (by kernel_rfl) (rd_boxS (us := [.int .i64 x21.Kind, .int .i64 x21.Shape, .int .i64 x21.Flags, .int .i64 x21.Age, .slice A22 n22 c22, .slice A23 n23 c23]) 0 rfl rfl agg42 rfl) rfl rfl ?_
            obtain ⟨y28, hy28, h⟩ := bind_elim h
            refine T3_opd 2 rfl (by kernel_rfl) (op_callR (cell_Leads_ok hy28) call75 rfl (mem_cons (lent_ro (i := 2) rfl rfl) (mem_cons (lent_ro (i := 3) rfl rfl) mem_nil)) cell_Leads_free) rfl rfl rfl ?_
            rintro _ _ ⟨_, ⟨A29, n29, c29, rfl, rfl⟩, rfl⟩
            refine ⟨[boxC B25 42 [.int .i64 x21.Kind, .int .i64 x21.Shape, .int .i64 x21.Flags, .int .i64 x21.Age, .slice A22 n22 c22, .slice A23 n23 c23], rowC (elemQ (.slice A16 n16 c16) p19.toNat 6 0) [.int .i64 x21.Kind, .int .i64 x21.Shape, .int .i64 x21.Flags, .int .i64 x21.Age, .slice A22 n22 c22, .slice A23 n23 c23], slC rDValue (.slice A22 n22 c22) x21.Slots, slC rDValue (.slice A23 n23 c23) x21.More, slC rDValue (.slice A3 n3 c3) a1, ownC (Rep.sl rDCell) 22 (.slice A7 n7 c7) ([a0.Young, a0.Old] : List (List DCell)), slC rDCell (.slice A16 n16 c16) x15, slC rDCell (.slice A1 n1 c1) a0.Young, slC rDCell (.slice A2 n2 c2) a0.Old, boxC B4 24 [.slice A1 n1 c1, .slice A2 n2 c2]], cv_sel [1, 2, 3, 4, 5, 7, 8, 9, 10, 11] 12 rfl rfl, cv_refl _, ?_⟩
            obtain ⟨q30, h⟩ := req_elim h
            refine T3_opd 3 rfl (by kernel_rfl) (op_append 6 0 rfl rfl els_own rfl rfl Try.underlying31 zb3 rfl rfl q30) rfl rfl rfl ?_
            rintro _ _ ⟨A31, n31, c31, rfl, rfl⟩
            refine ⟨[boxC B25 42 [.int .i64 x21.Kind, .int .i64 x21.Shape, .int .i64 x21.Flags, .int .i64 x21.Age, .slice A22 n22 c22, .slice A23 n23 c23], rowC (elemQ (.slice A16 n16 c16) p19.toNat 6 0) [.int .i64 x21.Kind, .int .i64 x21.Shape, .int .i64 x21.Flags, .int .i64 x21.Age, .slice A22 n22 c22, .slice A23 n23 c23], slC rDValue (.slice A22 n22 c22) x21.Slots, slC rDValue (.slice A23 n23 c23) x21.More, slC rDValue (.slice A3 n3 c3) a1, ownC (Rep.sl rDCell) 22 (.slice A7 n7 c7) ([a0.Young, a0.Old] : List (List DCell)), slC rDCell (.slice A16 n16 c16) x15, slC rDCell (.slice A1 n1 c1) a0.Young, slC rDCell (.slice A2 n2 c2) a0.Old, boxC B4 24 [.slice A1 n1 c1, .slice A2 n2 c2]], cv_sel [1, 2, 3, 4, 5, 7, 8, 9, 10, 11] 12 rfl rfl, cv_refl _, ?_⟩
            refine T3_norm ([ownC (rInt .i64) 3 (.slice A29 n29 c29) y28, boxC B25 42 [.int .i64 x21.Kind, .int .i64 x21.Shape, .int .i64 x21.Flags, .int .i64 x21.Age, .slice A22 n22 c22, .slice A23 n23 c23], rowC (elemQ (.slice A16 n16 c16) p19.toNat 6 0) [.int .i64 x21.Kind, .int .i64 x21.Shape, .int .i64 x21.Flags, .int .i64 x21.Age, .slice A22 n22 c22, .slice A23 n23 c23], slC rDValue (.slice A22 n22 c22) x21.Slots, slC rDValue (.slice A23 n23 c23) x21.More, slC rDValue (.slice A3 n3 c3) a1, ownC (rInt .i64) 3 (.slice A31 n31 c31) (p18 ++ y28), ownC (Rep.sl rDCell) 22 (.slice A7 n7 c7) ([a0.Young, a0.Old] : List (List DCell)), slC rDCell (.slice A16 n16 c16) x15, slC rDCell (.slice A1 n1 c1) a0.Young, slC rDCell (.slice A2 n2 c2) a0.Old, boxC B4 24 [.slice A1 n1 c1, .slice A2 n2 c2]]) rfl ?_
            obtain ⟨y32, hy32, h⟩ := bind_elim h
            refine T3_opd 5 rfl (by kernel_rfl) (op_callR (cell_Weakly_ok hy32) call109 rfl (mem_cons (lent_ro (i := 3) rfl rfl) (mem_cons (lent_ro (i := 4) rfl rfl) mem_nil)) cell_Weakly_free) rfl rfl rfl ?_
            rintro _ _ ⟨_, ⟨A33, n33, c33, rfl, rfl⟩, rfl⟩
            refine ⟨[boxC B25 42 [.int .i64 x21.Kind, .int .i64 x21.Shape, .int .i64 x21.Flags, .int .i64 x21.Age, .slice A22 n22 c22, .slice A23 n23 c23], rowC (elemQ (.slice A16 n16 c16) p19.toNat 6 0) [.int .i64 x21.Kind, .int .i64 x21.Shape, .int .i64 x21.Flags, .int .i64 x21.Age, .slice A22 n22 c22, .slice A23 n23 c23], slC rDValue (.slice A22 n22 c22) x21.Slots, slC rDValue (.slice A23 n23 c23) x21.More, slC rDValue (.slice A3 n3 c3) a1, ownC (Rep.sl rDCell) 22 (.slice A7 n7 c7) ([a0.Young, a0.Old] : List (List DCell)), slC rDCell (.slice A16 n16 c16) x15, slC rDCell (.slice A1 n1 c1) a0.Young, slC rDCell (.slice A2 n2 c2) a0.Old, boxC B4 24 [.slice A1 n1 c1, .slice A2 n2 c2]], cv_sel [2, 3, 4, 5, 6, 8, 9, 10, 11, 12] 13 rfl rfl, cv_refl _, ?_⟩
            obtain ⟨q34, h⟩ := req_elim h
            refine T3_opd 6 rfl (by kernel_rfl) (op_append 7 0 rfl rfl els_own rfl rfl Try.underlying31 zb3 rfl rfl q34) rfl rfl rfl ?_
            rintro _ _ ⟨A35, n35, c35, rfl, rfl⟩
            refine ⟨[boxC B25 42 [.int .i64 x21.Kind, .int .i64 x21.Shape, .int .i64 x21.Flags, .int .i64 x21.Age, .slice A22 n22 c22, .slice A23 n23 c23], rowC (elemQ (.slice A16 n16 c16) p19.toNat 6 0) [.int .i64 x21.Kind, .int .i64 x21.Shape, .int .i64 x21.Flags, .int .i64 x21.Age, .slice A22 n22 c22, .slice A23 n23 c23], slC rDValue (.slice A22 n22 c22) x21.Slots, slC rDValue (.slice A23 n23 c23) x21.More, slC rDValue (.slice A3 n3 c3) a1, ownC (Rep.sl rDCell) 22 (.slice A7 n7 c7) ([a0.Young, a0.Old] : List (List DCell)), slC rDCell (.slice A16 n16 c16) x15, slC rDCell (.slice A1 n1 c1) a0.Young, slC rDCell (.slice A2 n2 c2) a0.Old, boxC B4 24 [.slice A1 n1 c1, .slice A2 n2 c2]], cv_sel [2, 3, 4, 5, 6, 8, 9, 10, 11, 12] 13 rfl rfl, cv_refl _, ?_⟩
            refine T3_norm ([ownC (rInt .i64) 3 (.slice A33 n33 c33) y32, ownC (rInt .i64) 3 (.slice A29 n29 c29) y28, boxC B25 42 [.int .i64 x21.Kind, .int .i64 x21.Shape, .int .i64 x21.Flags, .int .i64 x21.Age, .slice A22 n22 c22, .slice A23 n23 c23], rowC (elemQ (.slice A16 n16 c16) p19.toNat 6 0) [.int .i64 x21.Kind, .int .i64 x21.Shape, .int .i64 x21.Flags, .int .i64 x21.Age, .slice A22 n22 c22, .slice A23 n23 c23], slC rDValue (.slice A22 n22 c22) x21.Slots, slC rDValue (.slice A23 n23 c23) x21.More, slC rDValue (.slice A3 n3 c3) a1, ownC (rInt .i64) 3 (.slice A35 n35 c35) ((p18 ++ y28) ++ y32), ownC (Rep.sl rDCell) 22 (.slice A7 n7 c7) ([a0.Young, a0.Old] : List (List DCell)), slC rDCell (.slice A16 n16 c16) x15, slC rDCell (.slice A1 n1 c1) a0.Young, slC rDCell (.slice A2 n2 c2) a0.Old, boxC B4 24 [.slice A1 n1 c1, .slice A2 n2 c2]]) rfl ?_
            refine T3_ev 7 rfl (by kernel_rfl) (ev_assign rfl) rfl rfl ?_
            refine T3_done (by kernel_rfl) ?_
            refine run ?_
            obtain ⟨q36, h⟩ := req_elim h
            refine G_ev (ev_add rfl rfl q36.1 q36.2) rfl rfl rfl ?_
            refine run ?_
            exact ⟨m17, _, _, Nat.lt_succ_self _, ⟨(p18 ++ y28) ++ y32, p19 + 1, A35, n35, c35, h, rfl, rfl⟩, sub_cons rfl (sub_cons rfl (sub_cons rfl (sub_cons rfl (sub_cons rfl (sub_cons rfl (sub_cons rfl (sub_cons rfl (sub_cons rfl (sub_cons rfl sub_nil))))))))), cv_sel [6, 7, 8, 9, 10, 11, 12] 13 rfl rfl⟩
        · replace h := cond_f g20 h
          refine run ?_
          exact ⟨_, _, ⟨p18, A18, n18, c18, h, rfl, rfl⟩, sub_cons rfl (sub_cons rfl (sub_cons rfl (sub_cons rfl (sub_cons rfl (sub_cons rfl (sub_cons rfl sub_nil)))))), cv_sel [0, 1, 2, 4, 5, 6] 7 rfl rfl⟩
      · rintro _ _ ⟨p14, A14, n14, c14, h, rfl, rfl⟩
        refine G_region ?_
        obtain ⟨q37, h⟩ := req_elim h
        refine G_ev (ev_add rfl rfl q37.1 q37.2) rfl rfl rfl ?_
        refine run ?_
        exact ⟨m8, _, _, Nat.lt_succ_self _, ⟨p14, p10 + 1, A14, n14, c14, h, rfl, rfl⟩, sub_cons rfl (sub_cons rfl (sub_cons rfl (sub_cons rfl (sub_cons rfl (sub_cons rfl (sub_cons rfl sub_nil)))))), cv_sel [0, 1, 2, 3, 4, 5] 6 rfl rfl⟩
    · replace h := cond_f g12 h
      refine run ?_
      exact ⟨_, _, ⟨p9, A9, n9, c9, h, rfl, rfl⟩, sub_cons rfl (sub_cons rfl (sub_cons rfl (sub_cons rfl sub_nil))), cv_sel [0, 1, 3, 4, 5] 6 rfl rfl⟩
  · rintro _ _ ⟨p6, A6, n6, c6, h, rfl, rfl⟩
    refine G_joinF (fun s L => ∃ (p39 : (List Int)) (A39 : Option Addr) (n39 c39 : Nat), major_check_j38 N a0 p39 = some r ∧ s = [(2, .pointer (some ⟨B4, 0, none⟩)), (4, .int .i64 0), (5, .slice A39 n39 c39)] ∧ L = [ownC (rInt .i64) 3 (.slice A39 n39 c39) p39, slC rDCell (.slice A1 n1 c1) a0.Young, slC rDCell (.slice A2 n2 c2) a0.Old, boxC B4 24 [.slice A1 n1 c1, .slice A2 n2 c2]]) ?_ ?_
    · refine run ?_
      refine G_rd (rd_len 0 rfl els_sl rfl Try.underlying25) rfl rfl rfl ?_
      refine run ?_
      refine G_loopF (fun m s L => ∃ (p41 : (List Int)) (p42 : Int) (A41 : Option Addr) (n41 c41 : Nat), major_check_l40 N a1 a0 m p41 p42 = some r ∧ s = [(2, .pointer (some ⟨B4, 0, none⟩)), (4, .int .i64 0), (5, .slice A41 n41 c41), (40, .slice A3 n3 c3), (41, .int .i64 (a1.length : Int)), (42, .int .i64 p42)] ∧ L = [ownC (rInt .i64) 3 (.slice A41 n41 c41) p41, slC rDValue (.slice A3 n3 c3) a1, slC rDCell (.slice A1 n1 c1) a0.Young, slC rDCell (.slice A2 n2 c2) a0.Old, boxC B4 24 [.slice A1 n1 c1, .slice A2 n2 c2]]) N _ _ ⟨p6, 0, A6, n6, c6, h, rfl, rfl⟩ (sub_cons rfl (sub_cons rfl (sub_cons rfl (sub_cons rfl (sub_cons rfl (sub_cons rfl sub_nil)))))) (cv_sel [1, 0, 2, 3, 4] 5 rfl rfl) ?_
      rintro (_ | m40) _ _ ⟨p41, p42, A41, n41, c41, h, rfl, rfl⟩
      · exact none_some h
      rw [major_check_l40_s] at h
      refine run ?_
      refine G_seq ?_
      refine G_cond rfl (fun g43 => ?_) (fun g43 => ?_)
      · replace h := cond_t g43 h
        refine run ?_
        refine G_joinF (fun s L => ∃ (p45 : (List Int)) (A45 : Option Addr) (n45 c45 : Nat), major_check_j44 N (major_check_l40 N a1 a0 m40) a1 p42 a0 p45 = some r ∧ s = [(2, .pointer (some ⟨B4, 0, none⟩)), (4, .int .i64 0), (5, .slice A45 n45 c45), (40, .slice A3 n3 c3), (41, .int .i64 (a1.length : Int)), (42, .int .i64 p42)] ∧ L = [ownC (rInt .i64) 3 (.slice A45 n45 c45) p45, slC rDValue (.slice A3 n3 c3) a1, slC rDCell (.slice A1 n1 c1) a0.Young, slC rDCell (.slice A2 n2 c2) a0.Old, boxC B4 24 [.slice A1 n1 c1, .slice A2 n2 c2]]) ?_ ?_
        · refine run ?_
          obtain ⟨x46, hx46, h⟩ := bind_elim h
          obtain ⟨lx46, ux46, hx46⟩ := getE_elim hx46
          refine G_rd (rd_idx 1 rfl els_sl rfl rfl Try.underlying25 size38 lx46 ux46) rfl rfl rfl ?_
          refine G_rd (rd_elemS (us := [.int .i64 x46.Kind, .int .i64 x46.N, .string x46.S]) 1 rfl els_sl rfl hx46 agg38 (fun _ _ _ h => by rw [show _ = _ from h]; rfl)) rfl rfl rfl ?_
          refine G_opd (op_alloc zero38 rfl) rfl rfl rfl ?_
          rintro _ _ ⟨B47, rfl, rfl⟩
          refine G_opn (op_store (us := [.int .i64 x46.Kind, .int .i64 x46.N, .string x46.S]) (cs' := [.int .i64 x46.Kind, .int .i64 x46.N, .string x46.S]) 0 rfl rfl rfl rfl size38 rfl rfl rfl) rfl rfl ?_
          rintro _ _ rfl
          refine G_norm ([boxC B47 38 [.int .i64 x46.Kind, .int .i64 x46.N, .string x46.S], ownC (rInt .i64) 3 (.slice A41 n41 c41) p41, slC rDValue (.slice A3 n3 c3) a1, slC rDCell (.slice A1 n1 c1) a0.Young, slC rDCell (.slice A2 n2 c2) a0.Old, boxC B4 24 [.slice A1 n1 c1, .slice A2 n2 c2]]) rfl ?_
          refine run ?_
          obtain ⟨b48, hb48, h⟩ := bind_elim h
          refine G_segb 4 53 b48 ?_ ?_
          · clear h
            refine G_case 49 rfl (fun g48 => ?_) (fun g48 => ?_)
            · have h := cond_t g48 hb48
              refine run ?_
              obtain rfl := Option.some.inj h
              exact G_joined (sub_cons rfl (sub_skip (sub_skip (sub_skip (sub_skip sub_refl rfl) rfl) rfl) rfl)) (cv_sel [0, 1, 2, 3, 4, 5] 6 rfl rfl)
            · have h := cond_f g48 hb48
              refine run ?_
              obtain rfl := Option.some.inj h
              exact G_joined (sub_cons rfl (sub_skip (sub_skip (sub_skip (sub_skip sub_refl rfl) rfl) rfl) rfl)) (cv_sel [0, 1, 2, 3, 4, 5] 6 rfl rfl)
          refine run ?_
          refine G_cond rfl (fun g49 => ?_) (fun g49 => ?_)
          · replace h := cond_t g49 h
            refine run ?_
            refine G_opd (op_bslice (R := (rInt .i64)) (vss := [[.int .i64 x46.N]]) (xs := [x46.N]) rfl (bsl_31_1 _) rfl rfl (fun _ _ hr => .cons rfl All2.nil)) rfl rfl rfl ?_
            rintro _ _ ⟨A50, n50, c50, rfl, rfl⟩
            obtain ⟨q51, h⟩ := req_elim h
            refine G_opd (op_append 2 0 rfl rfl els_own rfl rfl Try.underlying31 zb3 rfl rfl q51) rfl rfl rfl ?_
            rintro _ _ ⟨A52, n52, c52, rfl, rfl⟩
            refine G_norm ([ownC (rInt .i64) 3 (.slice A50 n50 c50) ([x46.N] : List Int), boxC B47 38 [.int .i64 x46.Kind, .int .i64 x46.N, .string x46.S], ownC (rInt .i64) 3 (.slice A52 n52 c52) (p41 ++ ([x46.N] : List Int)), slC rDValue (.slice A3 n3 c3) a1, slC rDCell (.slice A1 n1 c1) a0.Young, slC rDCell (.slice A2 n2 c2) a0.Old, boxC B4 24 [.slice A1 n1 c1, .slice A2 n2 c2]]) rfl ?_
            refine run ?_
            exact ⟨_, _, ⟨p41 ++ ([x46.N] : List Int), A52, n52, c52, h, rfl, rfl⟩, sub_cons rfl (sub_cons rfl (sub_cons rfl (sub_cons rfl (sub_cons rfl (sub_cons rfl sub_nil))))), cv_sel [2, 3, 4, 5, 6] 7 rfl rfl⟩
          · replace h := cond_f g49 h
            refine run ?_
            exact ⟨_, _, ⟨p41, A41, n41, c41, h, rfl, rfl⟩, sub_cons rfl (sub_cons rfl (sub_cons rfl (sub_cons rfl (sub_cons rfl (sub_cons rfl sub_nil))))), cv_sel [1, 2, 3, 4, 5] 6 rfl rfl⟩
        · rintro _ _ ⟨p45, A45, n45, c45, h, rfl, rfl⟩
          refine G_region ?_
          obtain ⟨q53, h⟩ := req_elim h
          refine G_ev (ev_add rfl rfl q53.1 q53.2) rfl rfl rfl ?_
          refine run ?_
          exact ⟨m40, _, _, Nat.lt_succ_self _, ⟨p45, p42 + 1, A45, n45, c45, h, rfl, rfl⟩, sub_cons rfl (sub_cons rfl (sub_cons rfl (sub_cons rfl (sub_cons rfl (sub_cons rfl sub_nil))))), cv_sel [0, 1, 2, 3, 4] 5 rfl rfl⟩
      · replace h := cond_f g43 h
        refine run ?_
        exact ⟨_, _, ⟨p41, A41, n41, c41, h, rfl, rfl⟩, sub_cons rfl (sub_cons rfl (sub_cons rfl sub_nil)), cv_sel [0, 2, 3, 4] 5 rfl rfl⟩
    · rintro _ _ ⟨p39, A39, n39, c39, h, rfl, rfl⟩
      refine G_seq ?_
      refine run ?_
      refine G_ev (ev_makeFunc rfl) rfl rfl rfl ?_
      obtain ⟨y54, hy54, h⟩ := bind_elim h
      refine G_opd (op_callR (slices_ContainsFunc_ok hy54 ⟨mem_cons rfl (mem_cons rfl (mem_cons rfl mem_nil)), 140, #[], #[.pointer (some ⟨B4, 0, none⟩)], rfl, call140, fun _ _ hh => major_check_c1_ok hh⟩) call72 rfl (mem_cons (lent_own (i := 0) rfl) (mem_cons (lent_box (i := 3) rfl) (mem_cons (lent_ro (i := 1) rfl rfl) (mem_cons (lent_ro (i := 2) rfl rfl) mem_nil)))) slices_ContainsFunc_free) rfl rfl rfl ?_
      rintro _ _ ⟨_, ⟨rfl, rfl⟩, rfl⟩
      refine run ?_
      refine G_cond rfl (fun g55 => ?_) (fun g55 => ?_)
      · replace h := cond_t g55 h
        refine run ?_
        obtain rfl := Option.some.inj h
        exact endG1 rfl rfl (cv_sel [] 4 rfl rfl) ⟨rfl, rfl⟩
      · replace h := cond_f g55 h
        refine run ?_
        obtain rfl := Option.some.inj h
        exact endG1 rfl rfl (cv_sel [] 4 rfl rfl) ⟨rfl, rfl⟩
theorem major_check_free {r : Int} : ∀ v post, ((fun (u : Value) (post : List Chunk) => u = .int .i64 r ∧ post = [])) v post → ∀ c ∈ post, Free c := by
  rintro _ _ ⟨rfl, rfl⟩; exact mem_nil
def finreg_is_O (N : Nat) (a0 : DCell) : Option Bool :=
  (bif decide (a0.Kind = 10) then ((cell_Right_O N a0).bind fun y5 => some y5) else (some false)).bind fun b4 => some b4
theorem finreg_is_ok {N : Nat} {a0 : DCell} {r : Bool} (h : finreg_is_O N a0 = some r) {A1 : Option Addr} {n1 c1 : Nat} {A2 : Option Addr} {n2 c2 : Nat} : Okc Try.prog 115 [.agg #[.int .i64 a0.Kind, .int .i64 a0.Shape, .int .i64 a0.Flags, .int .i64 a0.Age, .slice A1 n1 c1, .slice A2 n2 c2]] ([slC rDValue (.slice A1 n1 c1) a0.Slots, slC rDValue (.slice A2 n2 c2) a0.More]) (fun (u : Value) (post : List Chunk) => u = .bool r ∧ post = []) := by
  refine ok_E Try.func115 rfl rfl ?_
  simp only [envOf]
  refine run ?_
  refine G_opd (op_box rfl rfl) rfl rfl rfl ?_
  rintro _ _ ⟨B3, rfl, rfl⟩
  refine run ?_
  obtain ⟨b4, hb4, h⟩ := bind_elim h
  refine G_segb 3 9 b4 ?_ ?_
  · clear h
    refine G_case 6 rfl (fun g4 => ?_) (fun g4 => ?_)
    · have h := cond_t g4 hb4
      refine G_rd (rd_boxS (us := [.int .i64 a0.Kind, .int .i64 a0.Shape, .int .i64 a0.Flags, .int .i64 a0.Age, .slice A1 n1 c1, .slice A2 n2 c2]) 0 rfl rfl agg42 rfl) rfl (g_tt g4 rfl) rfl ?_
      obtain ⟨y5, hy5, h⟩ := bind_elim h
      refine G_opd (op_callR (cell_Right_ok hy5) call98 rfl (mem_cons (lent_ro (i := 1) rfl rfl) (mem_cons (lent_ro (i := 2) rfl rfl) mem_nil)) cell_Right_free) rfl (g_tt g4 rfl) rfl ?_
      rintro _ _ ⟨_, ⟨rfl, rfl⟩, rfl⟩
      refine run ?_
      obtain rfl := Option.some.inj h
      exact G_joined (sub_cons rfl (sub_skip (sub_skip (sub_skip sub_refl rfl) rfl) rfl)) (cv_sel [0, 1, 2] 3 rfl rfl)
    · have h := cond_f g4 hb4
      refine run ?_
      obtain rfl := Option.some.inj h
      exact G_joined (sub_cons rfl (sub_skip (sub_skip (sub_skip sub_refl rfl) rfl) rfl)) (cv_sel [0, 1, 2] 3 rfl rfl)
  refine run ?_
  obtain rfl := Option.some.inj h
  exact endG1 rfl rfl (cv_sel [] 3 rfl rfl) ⟨rfl, rfl⟩
theorem finreg_is_free {r : Bool} : ∀ v post, ((fun (u : Value) (post : List Chunk) => u = .bool r ∧ post = [])) v post → ∀ c ∈ post, Free c := by
  rintro _ _ ⟨rfl, rfl⟩; exact mem_nil
def finreg_bare_O (N : Nat) (a0 : DCell) : Option DCell :=
  (slices_Clone_O N a0.Slots).bind fun y5 => (getE a0.More 0).bind fun x7 => some (⟨a0.Kind, a0.Shape, a0.Flags, a0.Age, y5, ([x7] : List DValue)⟩ : DCell)
theorem finreg_bare_ok {N : Nat} {a0 : DCell} {r : DCell} (h : finreg_bare_O N a0 = some r) {A1 : Option Addr} {n1 c1 : Nat} {A2 : Option Addr} {n2 c2 : Nat} : Okc Try.prog 116 [.agg #[.int .i64 a0.Kind, .int .i64 a0.Shape, .int .i64 a0.Flags, .int .i64 a0.Age, .slice A1 n1 c1, .slice A2 n2 c2]] ([slC rDValue (.slice A1 n1 c1) a0.Slots, slC rDValue (.slice A2 n2 c2) a0.More]) (fun (u : Value) (post : List Chunk) => ∃ A0 n0 c0 A1 n1 c1, u = .agg #[.int .i64 r.Kind, .int .i64 r.Shape, .int .i64 r.Flags, .int .i64 r.Age, .slice A0 n0 c0, .slice A1 n1 c1] ∧ post = [ownC rDValue 38 (.slice A0 n0 c0) r.Slots, ownC rDValue 38 (.slice A1 n1 c1) r.More]) := by
  refine ok_E Try.func116 rfl rfl ?_
  simp only [envOf]
  refine run ?_
  refine G_opd (op_box rfl rfl) rfl rfl rfl ?_
  rintro _ _ ⟨B3, rfl, rfl⟩
  refine G_opd (op_alloc zero42 rfl) rfl rfl rfl ?_
  rintro _ _ ⟨B4, rfl, rfl⟩
  refine run ?_
  obtain ⟨y5, hy5, h⟩ := bind_elim h
  refine G_opd (op_callR (slices_Clone_ok hy5) call118 rfl (mem_cons (lent_ro (i := 2) rfl rfl) mem_nil) slices_Clone_free) rfl rfl rfl ?_
  rintro _ _ ⟨_, ⟨A6, n6, c6, rfl, rfl⟩, rfl⟩
  refine run ?_
  refine G_opn (op_store (us := [.slice A6 n6 c6]) (cs' := [.int .i64 a0.Kind, .int .i64 a0.Shape, .int .i64 a0.Flags, .int .i64 a0.Age, .slice A6 n6 c6, .slice A2 n2 c2]) 2 rfl rfl rfl rfl size25 rfl rfl rfl) rfl rfl ?_
  rintro _ _ rfl
  refine G_norm ([ownC rDValue 38 (.slice A6 n6 c6) y5, boxC B4 42 [.int .i64 0, .int .i64 0, .int .i64 0, .int .i64 0, .slice none 0 0, .slice none 0 0], boxC B3 42 [.int .i64 a0.Kind, .int .i64 a0.Shape, .int .i64 a0.Flags, .int .i64 a0.Age, .slice A6 n6 c6, .slice A2 n2 c2], slC rDValue (.slice A1 n1 c1) a0.Slots, slC rDValue (.slice A2 n2 c2) a0.More]) rfl ?_
  refine run ?_
  obtain ⟨x7, hx7, h⟩ := bind_elim h
  obtain ⟨lx7, ux7, hx7⟩ := getE_elim hx7
  refine G_rd (rd_idx 4 rfl els_sl rfl rfl Try.underlying25 size38 lx7 ux7) rfl rfl rfl ?_
  refine G_rd (rd_elemS (us := [.int .i64 x7.Kind, .int .i64 x7.N, .string x7.S]) 4 rfl els_sl rfl hx7 agg38 (fun _ _ _ h => by rw [show _ = _ from h]; rfl)) rfl rfl rfl ?_
  refine G_opd (op_bslice (R := rDValue) (vss := [[.int .i64 x7.Kind, .int .i64 x7.N, .string x7.S]]) (xs := [x7]) rfl (bsl_25_1 _ _ _) rfl rfl (fun _ _ hr => .cons rfl All2.nil)) rfl rfl rfl ?_
  rintro _ _ ⟨A8, n8, c8, rfl, rfl⟩
  refine run ?_
  refine G_opn (op_store (us := [.slice A8 n8 c8]) (cs' := [.int .i64 a0.Kind, .int .i64 a0.Shape, .int .i64 a0.Flags, .int .i64 a0.Age, .slice A6 n6 c6, .slice A8 n8 c8]) 3 rfl rfl rfl rfl size25 rfl rfl rfl) rfl rfl ?_
  rintro _ _ rfl
  refine G_norm ([ownC rDValue 38 (.slice A8 n8 c8) ([x7] : List DValue), ownC rDValue 38 (.slice A6 n6 c6) y5, boxC B4 42 [.int .i64 0, .int .i64 0, .int .i64 0, .int .i64 0, .slice none 0 0, .slice none 0 0], boxC B3 42 [.int .i64 a0.Kind, .int .i64 a0.Shape, .int .i64 a0.Flags, .int .i64 a0.Age, .slice A6 n6 c6, .slice A8 n8 c8], slC rDValue (.slice A1 n1 c1) a0.Slots, slC rDValue (.slice A2 n2 c2) a0.More]) rfl ?_
  refine run ?_
  refine G_rd (rd_boxS (us := [.int .i64 a0.Kind, .int .i64 a0.Shape, .int .i64 a0.Flags, .int .i64 a0.Age, .slice A6 n6 c6, .slice A8 n8 c8]) 3 rfl rfl agg42 rfl) rfl rfl rfl ?_
  refine G_opn (op_store (us := [.int .i64 a0.Kind, .int .i64 a0.Shape, .int .i64 a0.Flags, .int .i64 a0.Age, .slice A6 n6 c6, .slice A8 n8 c8]) (cs' := [.int .i64 a0.Kind, .int .i64 a0.Shape, .int .i64 a0.Flags, .int .i64 a0.Age, .slice A6 n6 c6, .slice A8 n8 c8]) 2 rfl rfl rfl rfl size42 rfl rfl rfl) rfl rfl ?_
  rintro _ _ rfl
  refine G_norm ([ownC rDValue 38 (.slice A8 n8 c8) ([x7] : List DValue), ownC rDValue 38 (.slice A6 n6 c6) y5, boxC B4 42 [.int .i64 a0.Kind, .int .i64 a0.Shape, .int .i64 a0.Flags, .int .i64 a0.Age, .slice A6 n6 c6, .slice A8 n8 c8], boxC B3 42 [.int .i64 a0.Kind, .int .i64 a0.Shape, .int .i64 a0.Flags, .int .i64 a0.Age, .slice A6 n6 c6, .slice A8 n8 c8], slC rDValue (.slice A1 n1 c1) a0.Slots, slC rDValue (.slice A2 n2 c2) a0.More]) rfl ?_
  refine run ?_
  obtain rfl := Option.some.inj h
  exact endGl (rs := [.cell 2 42]) (vs := [.agg #[.int .i64 a0.Kind, .int .i64 a0.Shape, .int .i64 a0.Flags, .int .i64 a0.Age, .slice A6 n6 c6, .slice A8 n8 c8]]) rfl (.cons (rv_boxS 2 rfl rfl agg42) .nil) rfl (cv_sel [1, 0] 6 rfl rfl) ⟨_, _, _, _, _, _, rfl, rfl⟩
def finreg_entries_c1_l4 (N : Nat) {σ : Type} (fy : (Int × (List DValue)) → σ → Option (Bool × σ)) (a1 : DCell) : Nat → Int → σ → Option σ
  | 0, _, _ => none
  | m4 + 1, p5, p6 => req (in64 (p5 + 4)) (bif decide (p5 + 4 ≤ (a1.More.length : Int)) then (req (in64 (p5 + 4)) (req (in64 (p5 + 4)) (req ((0 : Int) ≤ p5 ∧ (0 : Int) ≤ p5 + 4 ∧ p5.toNat ≤ (p5 + 4).toNat ∧ (p5 + 4).toNat ≤ a1.More.length) ((fy (p5, (a1.More.drop p5.toNat).take ((p5 + 4).toNat - p5.toNat)) p6).bind fun y13 => bif !y13.1 then (some y13.2) else (req (in64 (p5 + 4)) ((finreg_entries_c1_l4 N fy a1 m4) (p5 + 4) y13.2)))))) else (some p6))
theorem finreg_entries_c1_l4_s {N m4 : Nat} {σ : Type} {fy : (Int × (List DValue)) → σ → Option (Bool × σ)} {a1 : DCell} {p5 : Int} {p6 : σ} : finreg_entries_c1_l4 N fy a1 (m4 + 1) p5 p6 = req (in64 (p5 + 4)) (bif decide (p5 + 4 ≤ (a1.More.length : Int)) then (req (in64 (p5 + 4)) (req (in64 (p5 + 4)) (req ((0 : Int) ≤ p5 ∧ (0 : Int) ≤ p5 + 4 ∧ p5.toNat ≤ (p5 + 4).toNat ∧ (p5 + 4).toNat ≤ a1.More.length) ((fy (p5, (a1.More.drop p5.toNat).take ((p5 + 4).toNat - p5.toNat)) p6).bind fun y13 => bif !y13.1 then (some y13.2) else (req (in64 (p5 + 4)) ((finreg_entries_c1_l4 N fy a1 m4) (p5 + 4) y13.2)))))) else (some p6)) := rfl
def finreg_entries_c1_O (N : Nat) {σ : Type} (a1 : DCell) (fy : (Int × (List DValue)) → σ → Option (Bool × σ)) (s0 : σ) : Option σ :=
  finreg_entries_c1_l4 N fy a1 N 1 s0
theorem finreg_entries_c1_ok {N : Nat} {σ : Type} {a1 : DCell} {fy : (Int × (List DValue)) → σ → Option (Bool × σ)} {s0 : σ} {r : σ} (h : finreg_entries_c1_O N a1 fy s0 = some r) {B1 : Nat} {A2 : Option Addr} {n2 c2 : Nat} {A3 : Option Addr} {n3 c3 : Nat} {l : Nat} {G : σ → List Chunk} (hY : YieldOkR Try.prog l G (fun (x : Int × (List DValue)) vs cs => ∃ A1 n1 c1, vs = [.int .i64 x.1, .slice A1 n1 c1] ∧ cs = [slC rDValue (.slice A1 n1 c1) x.2]) fy) : Okc Try.prog 143 [.func (.yield l) #[] #[], .pointer (some ⟨B1, 0, none⟩)] (rboxC B1 42 [.int .i64 a1.Kind, .int .i64 a1.Shape, .int .i64 a1.Flags, .int .i64 a1.Age, .slice A2 n2 c2, .slice A3 n3 c3] :: slC rDValue (.slice A2 n2 c2) a1.Slots :: slC rDValue (.slice A3 n3 c3) a1.More :: (G s0)) (fun (u : Value) (post : List Chunk) => u = .tuple #[] ∧ post = G r) := by
  refine ok_E Try.func143 rfl rfl ?_
  simp only [envOf]
  refine run ?_
  refine G_loopF (fun m s L => ∃ (p5 : Int) (p6 : σ), finreg_entries_c1_l4 N fy a1 m p5 p6 = some r ∧ s = [(0, .func (.yield l) #[] #[]), (1, .pointer (some ⟨B1, 0, none⟩)), (3, .int .i64 p5)] ∧ L = slC rDValue (.slice A2 n2 c2) a1.Slots :: slC rDValue (.slice A3 n3 c3) a1.More :: rboxC B1 42 [.int .i64 a1.Kind, .int .i64 a1.Shape, .int .i64 a1.Flags, .int .i64 a1.Age, .slice A2 n2 c2, .slice A3 n3 c3] :: (G p6)) N _ _ ⟨1, s0, h, rfl, rfl⟩ (sub_cons rfl (sub_cons rfl (sub_cons rfl sub_nil))) (cv_sel [1, 2, 0] 3 rfl rfl) ?_
  rintro (_ | m4) _ _ ⟨p5, p6, h, rfl, rfl⟩
  · exact none_some h
  rw [finreg_entries_c1_l4_s] at h
  refine G_seq ?_
  refine run ?_
  obtain ⟨q7, h⟩ := req_elim h
  refine G_ev (ev_add rfl rfl q7.1 q7.2) rfl rfl rfl ?_
  refine run ?_
  refine G_rd (rd_rbox1 2 rfl rfl one25 rfl) rfl rfl rfl ?_
  refine G_rd (rd_len 1 rfl els_sl rfl Try.underlying25) rfl rfl rfl ?_
  refine run ?_
  refine G_cond rfl (fun g8 => ?_) (fun g8 => ?_)
  · replace h := cond_t g8 h
    refine run ?_
    refine G_seq ?_
    refine run ?_
    refine G_rd (rd_rbox1 2 rfl rfl one25 rfl) rfl rfl rfl ?_
    refine run ?_
    obtain ⟨q9, h⟩ := req_elim h
    refine G_ev (ev_add rfl rfl q9.1 q9.2) rfl rfl rfl ?_
    refine run ?_
    obtain ⟨q10, h⟩ := req_elim h
    refine G_ev (ev_add rfl rfl q10.1 q10.2) rfl rfl rfl ?_
    obtain ⟨q11, h⟩ := req_elim h
    refine G_cut3 1 rfl (l := p5.toNat) (h := (p5 + 4).toNat) q11.2.2.1 q11.2.2.2 ?_
    rintro A12 n12 c12 e12
    refine G_rd (rd_cut3 2 rfl e12 rfl Try.underlying25 size38 rfl (by rw [Int.toNat_of_nonneg q11.1]; rfl) (by rw [Int.toNat_of_nonneg q11.2.1]; rfl) (by rw [Int.toNat_of_nonneg q11.2.1]; rfl) q11.2.2.1 q11.2.2.2) rfl rfl rfl ?_
    obtain ⟨y13, hy13, h⟩ := bind_elim h
    refine G_opd (op_yieldR (a := (p5, (a1.More.drop p5.toNat).take ((p5 + 4).toNat - p5.toNat))) [slC rDValue (.slice A12 n12 c12) ((a1.More.drop p5.toNat).take ((p5 + 4).toNat - p5.toNat)), slC rDValue (.slice A2 n2 c2) a1.Slots, slC rDValue (.slice A3 n3 c3) a1.More, rboxC B1 42 [.int .i64 a1.Kind, .int .i64 a1.Shape, .int .i64 a1.Flags, .int .i64 a1.Age, .slice A2 n2 c2, .slice A3 n3 c3]] hY hy13 rfl rfl ⟨_, _, _, rfl, rfl⟩ (cv_dup 0 rfl rfl)) rfl rfl rfl ?_
    rintro _ _ ⟨rfl, rfl⟩
    refine G_norm (slC rDValue (.slice A12 n12 c12) ((a1.More.drop p5.toNat).take ((p5 + 4).toNat - p5.toNat)) :: slC rDValue (.slice A2 n2 c2) a1.Slots :: slC rDValue (.slice A3 n3 c3) a1.More :: rboxC B1 42 [.int .i64 a1.Kind, .int .i64 a1.Shape, .int .i64 a1.Flags, .int .i64 a1.Age, .slice A2 n2 c2, .slice A3 n3 c3] :: (G y13.2)) rfl ?_
    refine run ?_
    refine G_cond rfl (fun g14 => ?_) (fun g14 => ?_)
    · replace h := cond_t g14 h
      refine run ?_
      obtain rfl := Option.some.inj h
      exact endG0 rfl (cv_sel [] 4 rfl rfl) ⟨rfl, rfl⟩
    · replace h := cond_f g14 h
      refine run ?_
      obtain ⟨q15, h⟩ := req_elim h
      refine G_ev (ev_add rfl rfl q15.1 q15.2) rfl rfl rfl ?_
      refine run ?_
      exact ⟨m4, _, _, Nat.lt_succ_self _, ⟨p5 + 4, y13.2, h, rfl, rfl⟩, sub_cons rfl (sub_cons rfl (sub_cons rfl sub_nil)), cv_sel [1, 2, 3] 4 rfl rfl⟩
  · replace h := cond_f g8 h
    refine run ?_
    obtain rfl := Option.some.inj h
    exact endG0n rfl (cv_sel [] 3 rfl rfl) ⟨rfl, rfl⟩
def finreg_entries_O (N : Nat) (a0 : DCell) : Option Unit :=
  some ()
theorem finreg_entries_ok {N : Nat} {a0 : DCell} {r : Unit} (h : finreg_entries_O N a0 = some r) {A1 : Option Addr} {n1 c1 : Nat} {A2 : Option Addr} {n2 c2 : Nat} : Okc Try.prog 117 [.agg #[.int .i64 a0.Kind, .int .i64 a0.Shape, .int .i64 a0.Flags, .int .i64 a0.Age, .slice A1 n1 c1, .slice A2 n2 c2]] ([slC rDValue (.slice A1 n1 c1) a0.Slots, slC rDValue (.slice A2 n2 c2) a0.More]) (fun (u : Value) (post : List Chunk) => ∃ B900, u = .func (.func 143) #[] #[.pointer (some ⟨B900, 0, none⟩)] ∧ post = [boxC B900 42 [.int .i64 a0.Kind, .int .i64 a0.Shape, .int .i64 a0.Flags, .int .i64 a0.Age, .slice A1 n1 c1, .slice A2 n2 c2]]) := by
  refine ok_E Try.func117 rfl rfl ?_
  simp only [envOf]
  refine run ?_
  refine G_opd (op_box rfl rfl) rfl rfl rfl ?_
  rintro _ _ ⟨B3, rfl, rfl⟩
  refine run ?_
  refine G_ev (ev_makeFunc rfl) rfl rfl rfl ?_
  refine run ?_
  obtain rfl := Option.some.inj h
  exact endG1 rfl rfl (cv_sel [0] 3 rfl rfl) ⟨_, rfl, rfl⟩
theorem finreg_entries_free {a0 : DCell} {A1 : Option Addr} {n1 : Nat} {c1 : Nat} {A2 : Option Addr} {n2 : Nat} {c2 : Nat} : ∀ v post, ((fun (u : Value) (post : List Chunk) => ∃ B900, u = .func (.func 143) #[] #[.pointer (some ⟨B900, 0, none⟩)] ∧ post = [boxC B900 42 [.int .i64 a0.Kind, .int .i64 a0.Shape, .int .i64 a0.Flags, .int .i64 a0.Age, .slice A1 n1 c1, .slice A2 n2 c2]])) v post → ∀ c ∈ post, Free c := by
  rintro _ _ ⟨_, rfl, rfl⟩; exact mem_cons free_box (mem_nil)
def finreg_Clean_j45 (N : Nat) (x28 : (Int × (List DValue))) (a0 : DCell) (p14 : (List (Int × Bool))) (y21 : (DCell)) (p30 : (List DValue)) (p31 : (List DValue)) (p46 : Int) (p47 : Int) (p48 : ByteArray) : Option (Option Exit × (List DValue) × (List DValue)) :=
  (getE x28.2 0).bind fun x51 => (getE x28.2 1).bind fun x52 => (getE x28.2 3).bind fun x53 => req (fitsL (p30.length + ([x51, x52, (⟨p46, p47, p48⟩ : DValue), x53] : List DValue).length)) (some (none, (p30 ++ ([x51, x52, (⟨p46, p47, p48⟩ : DValue), x53] : List DValue), p31)))
def finreg_Clean_b28 (N : Nat) (a0 : DCell) (p14 : (List (Int × Bool))) (y21 : (DCell)) (x28 : Int × (List DValue)) : ((List DValue) × (List DValue)) → Option (Option Exit × ((List DValue) × (List DValue)))
  | (p30, p31) => (getE x28.2 0).bind fun x34 => bif !((lk p14 x34.N).getD false) then ((getE a0.More 0).bind fun x36 => (getE x28.2 1).bind fun x37 => (getE x28.2 3).bind fun x38 => req (fitsL (p31.length + ([x36, x37, x38] : List DValue).length)) (some (none, (p30, p31 ++ ([x36, x37, x38] : List DValue))))) else ((getE x28.2 2).bind fun x43 => (bif decide (x43.Kind = 7) then (some (!((lk p14 x43.N).getD false))) else (some false)).bind fun b49 => bif b49 then (finreg_Clean_j45 N x28 a0 p14 y21 p30 p31 0 0 (⟨#[]⟩)) else (finreg_Clean_j45 N x28 a0 p14 y21 p30 p31 x43.Kind x43.N x43.S))
def finreg_Clean_j13 (N : Nat) (a0 : DCell) (p14 : (List (Int × Bool))) : Option (DCell × (List DValue)) :=
  (finreg_bare_O N a0).bind fun y21 => (finreg_entries_O N a0).bind fun y26 => (finreg_entries_c1_O N a0 (liftR (fun x st => finreg_Clean_b28 N a0 p14 y21 x st)) (none, (y21.More, []))).bind fun y32 => caseX y32.1 (some ((⟨y21.Kind, y21.Shape, y21.Flags, y21.Age, y21.Slots, y32.2.1⟩ : DCell), y32.2.2)) none (fun _ => none)
def finreg_Clean_l15 (N : Nat) (a1 : (List Int)) (a0 : DCell) : Nat → Int → (List (Int × Bool)) → Option (DCell × (List DValue))
  | 0, _, _ => none
  | m15 + 1, p16, p17 => bif decide (p16 < (a1.length : Int)) then ((getE a1 p16).bind fun x19 => req (in64 (p16 + 1)) ((finreg_Clean_l15 N a1 a0 m15) (p16 + 1) (upL p17 x19 true))) else (finreg_Clean_j13 N a0 p17)
theorem finreg_Clean_l15_s {N m15 : Nat} {a1 : (List Int)} {a0 : DCell} {p16 : Int} {p17 : (List (Int × Bool))} : finreg_Clean_l15 N a1 a0 (m15 + 1) p16 p17 = bif decide (p16 < (a1.length : Int)) then ((getE a1 p16).bind fun x19 => req (in64 (p16 + 1)) ((finreg_Clean_l15 N a1 a0 m15) (p16 + 1) (upL p17 x19 true))) else (finreg_Clean_j13 N a0 p17) := rfl
def finreg_Clean_O (N : Nat) (a0 : DCell) (a1 : (List Int)) : Option (DCell × (List DValue)) :=
  (finreg_is_O N a0).bind fun y6 => bif !y6 then (some ((⟨0, 0, 0, 0, [], []⟩ : DCell), [])) else (finreg_Clean_l15 N a1 a0 N 0 ([] : (List (Int × Bool))))
set_option maxHeartbeats 4000000 in
theorem finreg_Clean_ok {N : Nat} {a0 : DCell} {a1 : (List Int)} {r : (DCell × (List DValue))} (h : finreg_Clean_O N a0 a1 = some r) {A1 : Option Addr} {n1 c1 : Nat} {A2 : Option Addr} {n2 c2 : Nat} {A3 : Option Addr} {n3 c3 : Nat} : Okc Try.prog 80 [.agg #[.int .i64 a0.Kind, .int .i64 a0.Shape, .int .i64 a0.Flags, .int .i64 a0.Age, .slice A1 n1 c1, .slice A2 n2 c2], .slice A3 n3 c3] ([slC rDValue (.slice A1 n1 c1) a0.Slots, slC rDValue (.slice A2 n2 c2) a0.More, slC (rInt .i64) (.slice A3 n3 c3) a1]) (fun (u : Value) (post : List Chunk) => ∃ A0 n0 c0 A1 n1 c1 A2 n2 c2, u = .tuple #[.agg #[.int .i64 r.1.Kind, .int .i64 r.1.Shape, .int .i64 r.1.Flags, .int .i64 r.1.Age, .slice A0 n0 c0, .slice A1 n1 c1], .slice A2 n2 c2] ∧ post = [ownC rDValue 38 (.slice A0 n0 c0) r.1.Slots, ownC rDValue 38 (.slice A1 n1 c1) r.1.More, ownC rDValue 38 (.slice A2 n2 c2) r.2]) := by
  refine ok_E Try.func80 rfl rfl ?_
  simp only [envOf]
  refine run ?_
  refine G_opd (op_box rfl rfl) rfl rfl rfl ?_
  rintro _ _ ⟨B4, rfl, rfl⟩
  refine G_opd (op_alloc zero42 rfl) rfl rfl rfl ?_
  rintro _ _ ⟨B5, rfl, rfl⟩
  refine run ?_
  refine G_seq ?_
  refine run ?_
  refine G_rd (rd_boxS (us := [.int .i64 a0.Kind, .int .i64 a0.Shape, .int .i64 a0.Flags, .int .i64 a0.Age, .slice A1 n1 c1, .slice A2 n2 c2]) 1 rfl rfl agg42 rfl) rfl rfl rfl ?_
  obtain ⟨y6, hy6, h⟩ := bind_elim h
  refine G_opd (op_callR (finreg_is_ok hy6) call115 rfl (mem_cons (lent_ro (i := 2) rfl rfl) (mem_cons (lent_ro (i := 3) rfl rfl) mem_nil)) finreg_is_free) rfl rfl rfl ?_
  rintro _ _ ⟨_, ⟨rfl, rfl⟩, rfl⟩
  refine run ?_
  refine G_cond rfl (fun g7 => ?_) (fun g7 => ?_)
  · replace h := cond_t g7 h
    refine run ?_
    refine G_ev (ev_build rfl (bld_42_)) rfl rfl rfl ?_
    refine G_opn (op_store (us := [.int .i64 0, .int .i64 0, .int .i64 0, .int .i64 0, .slice none 0 0, .slice none 0 0]) (cs' := [.int .i64 0, .int .i64 0, .int .i64 0, .int .i64 0, .slice none 0 0, .slice none 0 0]) 0 rfl rfl rfl rfl size42 rfl rfl rfl) rfl rfl ?_
    rintro _ _ rfl
    refine G_norm ([boxC B5 42 [.int .i64 0, .int .i64 0, .int .i64 0, .int .i64 0, .slice none 0 0, .slice none 0 0], boxC B4 42 [.int .i64 a0.Kind, .int .i64 a0.Shape, .int .i64 a0.Flags, .int .i64 a0.Age, .slice A1 n1 c1, .slice A2 n2 c2], slC rDValue (.slice A1 n1 c1) a0.Slots, slC rDValue (.slice A2 n2 c2) a0.More, slC (rInt .i64) (.slice A3 n3 c3) a1]) rfl ?_
    refine run ?_
    obtain rfl := Option.some.inj h
    exact endGl (rs := [.cell 4 42, .tmp 5]) (vs := [.agg #[.int .i64 0, .int .i64 0, .int .i64 0, .int .i64 0, .slice none 0 0, .slice none 0 0], .slice none 0 0]) rfl (.cons (rv_boxS 0 rfl rfl agg42) (.cons (rv_tmp rfl) .nil)) rfl ((cv_nil rDValue 38 _).trans ((cv_nil rDValue 38 _).trans ((cv_nil rDValue 38 _).trans (cv_sel [2, 1, 0] 8 rfl rfl)))) ⟨_, _, _, _, _, _, _, _, _, rfl, rfl⟩
  · replace h := cond_f g7 h
    refine run ?_
    refine G_rd (rd_len 4 rfl els_sl rfl Try.underlying31) rfl rfl rfl ?_
    refine G_opd (op_makeMapN (ek := ekI) (ev := evB) rfl Try.underlying59) rfl rfl rfl ?_
    rintro _ _ ⟨M11, rfl, rfl⟩
    refine G_opd (op_alloc zero59 rfl) rfl rfl rfl ?_
    rintro _ _ ⟨B12, rfl, rfl⟩
    refine G_opn (op_store (us := [.map (some M11)]) (cs' := [.map (some M11)]) 0 rfl rfl rfl rfl size59 rfl rfl rfl) rfl rfl ?_
    rintro _ _ rfl
    refine G_norm ([boxC B12 59 [.map (some M11)], mapC ekI evB M11 ([] : (List (Int × Bool))), boxC B5 42 [.int .i64 0, .int .i64 0, .int .i64 0, .int .i64 0, .slice none 0 0, .slice none 0 0], boxC B4 42 [.int .i64 a0.Kind, .int .i64 a0.Shape, .int .i64 a0.Flags, .int .i64 a0.Age, .slice A1 n1 c1, .slice A2 n2 c2], slC rDValue (.slice A1 n1 c1) a0.Slots, slC rDValue (.slice A2 n2 c2) a0.More, slC (rInt .i64) (.slice A3 n3 c3) a1]) rfl ?_
    refine run ?_
    refine G_joinF (fun s L => ∃ (p14 : (List (Int × Bool))), finreg_Clean_j13 N a0 p14 = some r ∧ s = [(2, .pointer (some ⟨B4, 0, none⟩)), (4, .pointer (some ⟨B5, 0, none⟩)), (5, .slice none 0 0), (6, .pointer (some ⟨B12, 0, none⟩))] ∧ L = [slC rDValue (.slice A1 n1 c1) a0.Slots, slC rDValue (.slice A2 n2 c2) a0.More, boxC B4 42 [.int .i64 a0.Kind, .int .i64 a0.Shape, .int .i64 a0.Flags, .int .i64 a0.Age, .slice A1 n1 c1, .slice A2 n2 c2], boxC B5 42 [.int .i64 0, .int .i64 0, .int .i64 0, .int .i64 0, .slice none 0 0, .slice none 0 0], mapC ekI evB M11 p14, boxC B12 59 [.map (some M11)]]) ?_ ?_
    · refine run ?_
      refine G_rd (rd_len 6 rfl els_sl rfl Try.underlying31) rfl rfl rfl ?_
      refine run ?_
      refine G_loopF (fun m s L => ∃ (p16 : Int) (p17 : (List (Int × Bool))), finreg_Clean_l15 N a1 a0 m p16 p17 = some r ∧ s = [(2, .pointer (some ⟨B4, 0, none⟩)), (4, .pointer (some ⟨B5, 0, none⟩)), (5, .slice none 0 0), (6, .pointer (some ⟨B12, 0, none⟩)), (21, .slice A3 n3 c3), (22, .int .i64 (a1.length : Int)), (23, .int .i64 p16)] ∧ L = [slC (rInt .i64) (.slice A3 n3 c3) a1, slC rDValue (.slice A1 n1 c1) a0.Slots, slC rDValue (.slice A2 n2 c2) a0.More, boxC B4 42 [.int .i64 a0.Kind, .int .i64 a0.Shape, .int .i64 a0.Flags, .int .i64 a0.Age, .slice A1 n1 c1, .slice A2 n2 c2], boxC B5 42 [.int .i64 0, .int .i64 0, .int .i64 0, .int .i64 0, .slice none 0 0, .slice none 0 0], mapC ekI evB M11 p17, boxC B12 59 [.map (some M11)]]) N _ _ ⟨0, ([] : (List (Int × Bool))), h, rfl, rfl⟩ (sub_cons rfl (sub_cons rfl (sub_cons rfl (sub_cons rfl (sub_cons rfl (sub_cons rfl (sub_cons rfl sub_nil))))))) (cv_sel [6, 4, 5, 3, 2, 1, 0] 7 rfl rfl) ?_
      rintro (_ | m15) _ _ ⟨p16, p17, h, rfl, rfl⟩
      · exact none_some h
      rw [finreg_Clean_l15_s] at h
      refine run ?_
      refine G_seq ?_
      refine G_cond rfl (fun g18 => ?_) (fun g18 => ?_)
      · replace h := cond_t g18 h
        refine run ?_
        refine G_seq ?_
        refine run ?_
        obtain ⟨x19, hx19, h⟩ := bind_elim h
        obtain ⟨lx19, ux19, hx19⟩ := getE_elim hx19
        refine G_rd (rd_idx 0 rfl els_sl rfl rfl Try.underlying31 size3 lx19 ux19) rfl rfl rfl ?_
        refine G_rd (rd_elem1 (u := .int .i64 x19) 0 rfl els_sl rfl hx19 one3 (fun _ _ _ h => by rw [show _ = _ from h]; rfl)) rfl rfl rfl ?_
        refine run ?_
        refine G_opn (op_mapUpdate (a := x19) (b := true) 5 rfl rfl rfl rfl Try.underlying59 (keyOk_int Try.underlying3)) rfl rfl ?_
        rintro _ _ rfl
        refine G_norm ([slC (rInt .i64) (.slice A3 n3 c3) a1, slC rDValue (.slice A1 n1 c1) a0.Slots, slC rDValue (.slice A2 n2 c2) a0.More, boxC B4 42 [.int .i64 a0.Kind, .int .i64 a0.Shape, .int .i64 a0.Flags, .int .i64 a0.Age, .slice A1 n1 c1, .slice A2 n2 c2], boxC B5 42 [.int .i64 0, .int .i64 0, .int .i64 0, .int .i64 0, .slice none 0 0, .slice none 0 0], mapC ekI evB M11 (upL p17 x19 true), boxC B12 59 [.map (some M11)]]) rfl ?_
        refine run ?_
        obtain ⟨q20, h⟩ := req_elim h
        refine G_ev (ev_add rfl rfl q20.1 q20.2) rfl rfl rfl ?_
        refine run ?_
        exact ⟨m15, _, _, Nat.lt_succ_self _, ⟨p16 + 1, upL p17 x19 true, h, rfl, rfl⟩, sub_cons rfl (sub_cons rfl (sub_cons rfl (sub_cons rfl (sub_cons rfl (sub_cons rfl (sub_cons rfl sub_nil)))))), cv_sel [0, 1, 2, 3, 4, 5, 6] 7 rfl rfl⟩
      · replace h := cond_f g18 h
        refine run ?_
        exact ⟨_, _, ⟨p17, h, rfl, rfl⟩, sub_cons rfl (sub_cons rfl (sub_cons rfl (sub_cons rfl sub_nil))), cv_sel [1, 2, 3, 4, 5, 6] 7 rfl rfl⟩
    · rintro _ _ ⟨p14, h, rfl, rfl⟩
      refine run ?_
      refine G_rd (rd_boxS (us := [.int .i64 a0.Kind, .int .i64 a0.Shape, .int .i64 a0.Flags, .int .i64 a0.Age, .slice A1 n1 c1, .slice A2 n2 c2]) 2 rfl rfl agg42 rfl) rfl rfl rfl ?_
      obtain ⟨y21, hy21, h⟩ := bind_elim h
      refine G_opd (op_call (finreg_bare_ok hy21) call116 rfl (cv_take [0, 1] [] [0, 1, 2, 3, 4, 5] 6 rfl)) rfl rfl rfl ?_
      rintro _ _ ⟨_, ⟨A22, n22, c22, A23, n23, c23, rfl, rfl⟩, rfl⟩
      refine G_norm ([ownC rDValue 38 (.slice A22 n22 c22) y21.Slots, ownC rDValue 38 (.slice A23 n23 c23) y21.More, slC rDValue (.slice A1 n1 c1) a0.Slots, slC rDValue (.slice A2 n2 c2) a0.More, boxC B4 42 [.int .i64 a0.Kind, .int .i64 a0.Shape, .int .i64 a0.Flags, .int .i64 a0.Age, .slice A1 n1 c1, .slice A2 n2 c2], boxC B5 42 [.int .i64 0, .int .i64 0, .int .i64 0, .int .i64 0, .slice none 0 0, .slice none 0 0], mapC ekI evB M11 p14, boxC B12 59 [.map (some M11)]]) rfl ?_
      refine G_opd (op_alloc zero42 rfl) rfl rfl rfl ?_
      rintro _ _ ⟨B24, rfl, rfl⟩
      refine G_opn (op_store (us := [.int .i64 y21.Kind, .int .i64 y21.Shape, .int .i64 y21.Flags, .int .i64 y21.Age, .slice A22 n22 c22, .slice A23 n23 c23]) (cs' := [.int .i64 y21.Kind, .int .i64 y21.Shape, .int .i64 y21.Flags, .int .i64 y21.Age, .slice A22 n22 c22, .slice A23 n23 c23]) 0 rfl rfl rfl rfl size42 rfl rfl rfl) rfl rfl ?_
      rintro _ _ rfl
      refine G_norm ([boxC B24 42 [.int .i64 y21.Kind, .int .i64 y21.Shape, .int .i64 y21.Flags, .int .i64 y21.Age, .slice A22 n22 c22, .slice A23 n23 c23], ownC rDValue 38 (.slice A22 n22 c22) y21.Slots, ownC rDValue 38 (.slice A23 n23 c23) y21.More, slC rDValue (.slice A1 n1 c1) a0.Slots, slC rDValue (.slice A2 n2 c2) a0.More, boxC B4 42 [.int .i64 a0.Kind, .int .i64 a0.Shape, .int .i64 a0.Flags, .int .i64 a0.Age, .slice A1 n1 c1, .slice A2 n2 c2], boxC B5 42 [.int .i64 0, .int .i64 0, .int .i64 0, .int .i64 0, .slice none 0 0, .slice none 0 0], mapC ekI evB M11 p14, boxC B12 59 [.map (some M11)]]) rfl ?_
      refine run ?_
      refine G_opd (op_alloc zero25 rfl) rfl rfl rfl ?_
      rintro _ _ ⟨B25, rfl, rfl⟩
      refine run ?_
      refine G_seq ?_
      refine run ?_
      refine G_rd (rd_boxS (us := [.int .i64 a0.Kind, .int .i64 a0.Shape, .int .i64 a0.Flags, .int .i64 a0.Age, .slice A1 n1 c1, .slice A2 n2 c2]) 6 rfl rfl agg42 rfl) rfl rfl rfl ?_
      obtain ⟨y26, hy26, h⟩ := bind_elim h
      refine G_opd (op_callR (finreg_entries_ok hy26) call117 rfl (mem_cons (lent_ro (i := 4) rfl rfl) (mem_cons (lent_ro (i := 5) rfl rfl) mem_nil)) finreg_entries_free) rfl rfl rfl ?_
      rintro _ _ ⟨_, ⟨B27, rfl, rfl⟩, rfl⟩
      refine G_nil ?_
      refine nx_n ?_
      refine G_sub ?_ sub_refl (cv_frzbox 0 rfl)
      refine Wq_norm ([rboxC B27 42 [.int .i64 a0.Kind, .int .i64 a0.Shape, .int .i64 a0.Flags, .int .i64 a0.Age, .slice A1 n1 c1, .slice A2 n2 c2], boxC B25 25 [.slice none 0 0], boxC B24 42 [.int .i64 y21.Kind, .int .i64 y21.Shape, .int .i64 y21.Flags, .int .i64 y21.Age, .slice A22 n22 c22, .slice A23 n23 c23], ownC rDValue 38 (.slice A22 n22 c22) y21.Slots, ownC rDValue 38 (.slice A23 n23 c23) y21.More, slC rDValue (.slice A1 n1 c1) a0.Slots, slC rDValue (.slice A2 n2 c2) a0.More, boxC B4 42 [.int .i64 a0.Kind, .int .i64 a0.Shape, .int .i64 a0.Flags, .int .i64 a0.Age, .slice A1 n1 c1, .slice A2 n2 c2], boxC B5 42 [.int .i64 0, .int .i64 0, .int .i64 0, .int .i64 0, .slice none 0 0, .slice none 0 0], mapC ekI evB M11 p14, boxC B12 59 [.map (some M11)]]) rfl ?_
      obtain ⟨y32, hy32, h⟩ := bind_elim h
      refine G_rangeXR (R := (fun (x : Int × (List DValue)) vs cs => ∃ A1 n1 c1, vs = [.int .i64 x.1, .slice A1 n1 c1] ∧ cs = [slC rDValue (.slice A1 n1 c1) x.2])) (fun x st => finreg_Clean_b28 N a0 p14 y21 x st) (fun (st : (List DValue) × (List DValue)) (mz : ((Option Addr × Nat × Nat) × (Option Addr × Nat × Nat))) => [slC rDValue (.slice A1 n1 c1) a0.Slots, slC rDValue (.slice A2 n2 c2) a0.More, boxC B4 42 [.int .i64 a0.Kind, .int .i64 a0.Shape, .int .i64 a0.Flags, .int .i64 a0.Age, .slice A1 n1 c1, .slice A2 n2 c2], boxC B5 42 [.int .i64 0, .int .i64 0, .int .i64 0, .int .i64 0, .slice none 0 0, .slice none 0 0], mapC ekI evB M11 p14, boxC B12 59 [.map (some M11)], ownC rDValue 38 (.slice A22 n22 c22) y21.Slots, ownC rDValue 38 (.slice mz.1.1 mz.1.2.1 mz.1.2.2) st.1, boxC B24 42 [.int .i64 y21.Kind, .int .i64 y21.Shape, .int .i64 y21.Flags, .int .i64 y21.Age, .slice A22 n22 c22, .slice mz.1.1 mz.1.2.1 mz.1.2.2], ownC rDValue 38 (.slice mz.2.1 mz.2.2.1 mz.2.2.2) st.2, boxC B25 25 [.slice mz.2.1 mz.2.2.1 mz.2.2.2]]) [rboxC B27 42 [.int .i64 a0.Kind, .int .i64 a0.Shape, .int .i64 a0.Flags, .int .i64 a0.Age, .slice A1 n1 c1, .slice A2 n2 c2], slC rDValue (.slice A1 n1 c1) a0.Slots, slC rDValue (.slice A2 n2 c2) a0.More] ((y21.More, [])) (((A23, n23, c23), (none, 0, 0))) rfl rfl call143 rfl (by rintro _ _ _ ⟨_, _, _, rfl, rfl⟩; rfl) (fun l G hY => (finreg_entries_c1_ok hy32 hY).mono fun _ _ hh => hh.2) ((cv_nil rDValue 38 _).trans (cv_take [1, 6, 7] [] [6, 7, 8, 9, 10, 11, 4, 5, 3, 0, 2] 12 rfl)) h ?_ ?_ ?_ ?_
      · rintro l x28 ⟨p30, p31⟩ je sr28 ⟨⟨A30, n30, c30⟩, ⟨A31, n31, c31⟩⟩ h _ _ ⟨A29, n29, c29, rfl, rfl⟩
        replace h : finreg_Clean_b28 N a0 p14 y21 x28 (p30, p31) = some (je, sr28) := h
        simp only [envR, List.zip_cons_cons, List.zip_nil_left, List.zip_nil_right, List.reverse_cons, List.reverse_nil, List.nil_append, List.cons_append]
        refine run ?_
        refine G_seq ?_
        refine G_seq ?_
        refine G_drawn (by kernel_rfl) _ (cv_refl _) ?_
        refine T3_rd 0 rfl (by kernel_rfl) (rd_box1 6 rfl rfl one59 rfl) rfl rfl ?_
        refine T3_ev 1 rfl (by kernel_rfl) (ev_move rfl) rfl rfl ?_
        obtain ⟨x34, hx34, h⟩ := bind_elim h
        obtain ⟨lx34, ux34, hx34⟩ := getE_elim hx34
        refine T3_rd 2 rfl (by kernel_rfl) (rd_idx 0 rfl els_sl rfl rfl Try.underlying25 size38 lx34 ux34) rfl rfl ?_
        refine T3_rd 3 rfl (by kernel_rfl) (rd_fa 0 rfl els_sl rfl (toNat_lt lx34 ux34) fa_38_1) rfl rfl ?_
        refine T3_rd 4 rfl (by kernel_rfl) (rd_elem1 (u := .int .i64 x34.N) 0 rfl els_sl rfl hx34 one3 (fun _ _ _ h => by rw [show _ = _ from h]; rfl)) rfl rfl ?_
        refine T3_rd 5 rfl (by kernel_rfl) (rd_look1 (a := x34.N) (z := false) 5 rfl map_rw rfl rfl Try.underlying59 (keyOk_int Try.underlying3) zero4) rfl rfl ?_
        refine T3_ev 6 rfl (by kernel_rfl) (ev_not rfl) rfl rfl ?_
        refine T3_done (by kernel_rfl) ?_
        refine nx_n ?_
        refine G_cond rfl (fun g35 => ?_) (fun g35 => ?_)
        · replace h := cond_t g35 h
          refine G_seq ?_
          obtain ⟨x36, hx36, h⟩ := bind_elim h
          obtain ⟨lx36, ux36, hx36⟩ := getE_elim hx36
          obtain ⟨x37, hx37, h⟩ := bind_elim h
          obtain ⟨lx37, ux37, hx37⟩ := getE_elim hx37
          obtain ⟨x38, hx38, h⟩ := bind_elim h
          obtain ⟨lx38, ux38, hx38⟩ := getE_elim hx38
          refine G_sub (t := [(2, .pointer (some ⟨B4, 0, none⟩)), (4, .pointer (some ⟨B5, 0, none⟩)), (5, .slice none 0 0), (6, .pointer (some ⟨B12, 0, none⟩)), (9, .pointer (some ⟨B24, 0, none⟩)), (10, .pointer (some ⟨B25, 0, none⟩)), (12, .slice A29 n29 c29)]) ?_ subT (cv_refl _)
          refine G_monoX (by kernel_rfl) 12 [] [0, 11] [43, 44, 45, 46, 47, 48, 49, 50, 51, 52, 53, 54] [[], [], [1], [2], [3], [], [5], [6], [], [8], [9], [4, 7, 10]] [aV (.slice A31 n31 c31),
 aV (.pointer (some ⟨B4, 5, none⟩)),
 aV (.slice A2 n2 c2),
 aV (elemQ (.slice A2 n2 c2) ((0 : Int).toNat) 3 0),
 aV (.agg #[.int .i64 x36.Kind, .int .i64 x36.N, .string x36.S]),
 aV (.slice A29 n29 c29),
 aV (elemQ (.slice A29 n29 c29) ((1 : Int).toNat) 3 0),
 aV (.agg #[.int .i64 x37.Kind, .int .i64 x37.N, .string x37.S]),
 aV (.slice A29 n29 c29),
 aV (elemQ (.slice A29 n29 c29) ((3 : Int).toNat) 3 0),
 aV (.agg #[.int .i64 x38.Kind, .int .i64 x38.N, .string x38.S]),
 aX3 (fun (A40 : Option Addr) (n40 c40 : Nat) => .slice A40 n40 c40) (fun A40 n40 c40 => [ownC rDValue 38 (.slice A40 n40 c40) ([x36, x37, x38] : List DValue)])] [] (cv_refl _) (qB_nil) (by kernel_rfl) rfl rfl ?_ ?_ ?_
          · exact qs_nil
          · refine steps_cons rfl ?_ ?_
            · refine X_op (op_bslice (R := rDValue) (vss := [[.int .i64 x36.Kind, .int .i64 x36.N, .string x36.S], [.int .i64 x37.Kind, .int .i64 x37.N, .string x37.S], [.int .i64 x38.Kind, .int .i64 x38.N, .string x38.S]]) (xs := [x36, x37, x38]) rfl (bsl_25_3 _ _ _ _ _ _ _ _ _) rfl rfl (fun _ _ hr => .cons rfl (.cons rfl (.cons rfl All2.nil)))) rfl ?_
              rintro _ _ ⟨A39, n39, c39, rfl, rfl⟩
              exact cvp3 A39 n39 c39 (cv_refl _)
            refine steps_cons rfl ?_ ?_
            · exact X_rd (rd_elemS (us := [.int .i64 x38.Kind, .int .i64 x38.N, .string x38.S]) 0 rfl els_sl rfl hx38 agg38 (fun _ _ _ h => by rw [show _ = _ from h]; rfl)) rfl (cvpV rfl (cv_refl _))
            refine steps_cons rfl ?_ ?_
            · exact X_rd (rd_idx 0 rfl els_sl rfl rfl Try.underlying25 size38 lx38 ux38) rfl (cvpV rfl (cv_refl _))
            refine steps_cons rfl ?_ ?_
            · exact X_ev (ev_move rfl) rfl (cvpV rfl (cv_refl _))
            refine steps_cons rfl ?_ ?_
            · exact X_rd (rd_elemS (us := [.int .i64 x37.Kind, .int .i64 x37.N, .string x37.S]) 0 rfl els_sl rfl hx37 agg38 (fun _ _ _ h => by rw [show _ = _ from h]; rfl)) rfl (cvpV rfl (cv_refl _))
            refine steps_cons rfl ?_ ?_
            · exact X_rd (rd_idx 0 rfl els_sl rfl rfl Try.underlying25 size38 lx37 ux37) rfl (cvpV rfl (cv_refl _))
            refine steps_cons rfl ?_ ?_
            · exact X_ev (ev_move rfl) rfl (cvpV rfl (cv_refl _))
            refine steps_cons rfl ?_ ?_
            · exact X_rd (rd_elemS (us := [.int .i64 x36.Kind, .int .i64 x36.N, .string x36.S]) 2 rfl els_sl rfl hx36 agg38 (fun _ _ _ h => by rw [show _ = _ from h]; rfl)) rfl (cvpV rfl (cv_refl _))
            refine steps_cons rfl ?_ ?_
            · exact X_rd (rd_idx 2 rfl els_sl rfl rfl Try.underlying25 size38 lx36 ux36) rfl (cvpV rfl (cv_refl _))
            refine steps_cons rfl ?_ ?_
            · exact X_rd (rd_box1 3 rfl rfl one25 rfl) rfl (cvpV rfl (cv_refl _))
            refine steps_cons rfl ?_ ?_
            · exact X_ev (ev_fa rfl fa_42_5) rfl (cvpV rfl (cv_refl _))
            refine steps_cons rfl ?_ ?_
            · exact X_rd (rd_box1 11 rfl rfl one25 rfl) rfl (cvpV rfl (cv_refl _))
            exact steps_nil
          · intro A40 n40 c40
            refine N_sub (t := [(43, .slice A31 n31 c31), (54, .slice A40 n40 c40), (2, .pointer (some ⟨B4, 0, none⟩)), (4, .pointer (some ⟨B5, 0, none⟩)), (5, .slice none 0 0), (6, .pointer (some ⟨B12, 0, none⟩)), (9, .pointer (some ⟨B24, 0, none⟩)), (10, .pointer (some ⟨B25, 0, none⟩)), (12, .slice A29 n29 c29)]) (L' := [ownC rDValue 38 (.slice A40 n40 c40) ([x36, x37, x38] : List DValue), slC rDValue (.slice A29 n29 c29) x28.2, slC rDValue (.slice A1 n1 c1) a0.Slots, slC rDValue (.slice A2 n2 c2) a0.More, boxC B4 42 [.int .i64 a0.Kind, .int .i64 a0.Shape, .int .i64 a0.Flags, .int .i64 a0.Age, .slice A1 n1 c1, .slice A2 n2 c2], boxC B5 42 [.int .i64 0, .int .i64 0, .int .i64 0, .int .i64 0, .slice none 0 0, .slice none 0 0], mapC ekI evB M11 p14, boxC B12 59 [.map (some M11)], ownC rDValue 38 (.slice A22 n22 c22) y21.Slots, ownC rDValue 38 (.slice A30 n30 c30) p30, boxC B24 42 [.int .i64 y21.Kind, .int .i64 y21.Shape, .int .i64 y21.Flags, .int .i64 y21.Age, .slice A22 n22 c22, .slice A30 n30 c30], ownC rDValue 38 (.slice A31 n31 c31) p31, boxC B25 25 [.slice A31 n31 c31]]) ?_ subT (cv_refl _)
            obtain ⟨q41, h⟩ := req_elim h
            refine N_opd 12 rfl (by kernel_rfl) (op_append 11 0 rfl rfl els_own rfl rfl Try.underlying25 zb38 rfl rfl q41) rfl rfl rfl ?_
            rintro _ _ ⟨A42, n42, c42, rfl, rfl⟩
            refine N_norm ([ownC rDValue 38 (.slice A40 n40 c40) ([x36, x37, x38] : List DValue), slC rDValue (.slice A29 n29 c29) x28.2, slC rDValue (.slice A1 n1 c1) a0.Slots, slC rDValue (.slice A2 n2 c2) a0.More, boxC B4 42 [.int .i64 a0.Kind, .int .i64 a0.Shape, .int .i64 a0.Flags, .int .i64 a0.Age, .slice A1 n1 c1, .slice A2 n2 c2], boxC B5 42 [.int .i64 0, .int .i64 0, .int .i64 0, .int .i64 0, .slice none 0 0, .slice none 0 0], mapC ekI evB M11 p14, boxC B12 59 [.map (some M11)], ownC rDValue 38 (.slice A22 n22 c22) y21.Slots, ownC rDValue 38 (.slice A30 n30 c30) p30, boxC B24 42 [.int .i64 y21.Kind, .int .i64 y21.Shape, .int .i64 y21.Flags, .int .i64 y21.Age, .slice A22 n22 c22, .slice A30 n30 c30], ownC rDValue 38 (.slice A42 n42 c42) (p31 ++ ([x36, x37, x38] : List DValue)), boxC B25 25 [.slice A31 n31 c31]]) rfl ?_
            refine N_opn 13 rfl (by kernel_rfl) (op_store (us := [.slice A42 n42 c42]) (cs' := [.slice A42 n42 c42]) 12 rfl rfl rfl rfl size25 rfl rfl rfl) rfl rfl ?_
            rintro _ _ rfl
            refine N_norm ([ownC rDValue 38 (.slice A40 n40 c40) ([x36, x37, x38] : List DValue), slC rDValue (.slice A29 n29 c29) x28.2, slC rDValue (.slice A1 n1 c1) a0.Slots, slC rDValue (.slice A2 n2 c2) a0.More, boxC B4 42 [.int .i64 a0.Kind, .int .i64 a0.Shape, .int .i64 a0.Flags, .int .i64 a0.Age, .slice A1 n1 c1, .slice A2 n2 c2], boxC B5 42 [.int .i64 0, .int .i64 0, .int .i64 0, .int .i64 0, .slice none 0 0, .slice none 0 0], mapC ekI evB M11 p14, boxC B12 59 [.map (some M11)], ownC rDValue 38 (.slice A22 n22 c22) y21.Slots, ownC rDValue 38 (.slice A30 n30 c30) p30, boxC B24 42 [.int .i64 y21.Kind, .int .i64 y21.Shape, .int .i64 y21.Flags, .int .i64 y21.Age, .slice A22 n22 c22, .slice A30 n30 c30], ownC rDValue 38 (.slice A42 n42 c42) (p31 ++ ([x36, x37, x38] : List DValue)), boxC B25 25 [.slice A42 n42 c42]]) rfl ?_
            refine N_done (by kernel_rfl) ?_
            refine run ?_
            obtain ⟨rfl, rfl⟩ := Prod.mk.inj (Option.some.inj h)
            exact RK_n ((cv_sel [2, 3, 4, 5, 6, 7, 8, 9, 10, 11, 12] 13 rfl rfl).trans (cv_pack1 ((A30, n30, c30), (A42, n42, c42)) rfl))
        · replace h := cond_f g35 h
          refine run ?_
          obtain ⟨x43, hx43, h⟩ := bind_elim h
          obtain ⟨lx43, ux43, hx43⟩ := getE_elim hx43
          refine G_rd (rd_idx 0 rfl els_sl rfl rfl Try.underlying25 size38 lx43 ux43) rfl rfl rfl ?_
          refine G_rd (rd_elemS (us := [.int .i64 x43.Kind, .int .i64 x43.N, .string x43.S]) 0 rfl els_sl rfl hx43 agg38 (fun _ _ _ h => by rw [show _ = _ from h]; rfl)) rfl rfl rfl ?_
          refine G_opd (op_alloc zero38 rfl) rfl rfl rfl ?_
          rintro _ _ ⟨B44, rfl, rfl⟩
          refine G_opn (op_store (us := [.int .i64 x43.Kind, .int .i64 x43.N, .string x43.S]) (cs' := [.int .i64 x43.Kind, .int .i64 x43.N, .string x43.S]) 0 rfl rfl rfl rfl size38 rfl rfl rfl) rfl rfl ?_
          rintro _ _ rfl
          refine G_norm ([boxC B44 38 [.int .i64 x43.Kind, .int .i64 x43.N, .string x43.S], slC rDValue (.slice A29 n29 c29) x28.2, slC rDValue (.slice A1 n1 c1) a0.Slots, slC rDValue (.slice A2 n2 c2) a0.More, boxC B4 42 [.int .i64 a0.Kind, .int .i64 a0.Shape, .int .i64 a0.Flags, .int .i64 a0.Age, .slice A1 n1 c1, .slice A2 n2 c2], boxC B5 42 [.int .i64 0, .int .i64 0, .int .i64 0, .int .i64 0, .slice none 0 0, .slice none 0 0], mapC ekI evB M11 p14, boxC B12 59 [.map (some M11)], ownC rDValue 38 (.slice A22 n22 c22) y21.Slots, ownC rDValue 38 (.slice A30 n30 c30) p30, boxC B24 42 [.int .i64 y21.Kind, .int .i64 y21.Shape, .int .i64 y21.Flags, .int .i64 y21.Age, .slice A22 n22 c22, .slice A30 n30 c30], ownC rDValue 38 (.slice A31 n31 c31) p31, boxC B25 25 [.slice A31 n31 c31]]) rfl ?_
          refine run ?_
          refine G_joinF (fun s L => ∃ (p46 : Int) (p47 : Int) (p48 : ByteArray), finreg_Clean_j45 N x28 a0 p14 y21 p30 p31 p46 p47 p48 = some (je, sr28) ∧ s = [(2, .pointer (some ⟨B4, 0, none⟩)), (4, .pointer (some ⟨B5, 0, none⟩)), (5, .slice none 0 0), (6, .pointer (some ⟨B12, 0, none⟩)), (9, .pointer (some ⟨B24, 0, none⟩)), (10, .pointer (some ⟨B25, 0, none⟩)), (12, .slice A29 n29 c29), (13, .pointer (some ⟨B44, 0, none⟩))] ∧ L = [slC rDValue (.slice A29 n29 c29) x28.2, slC rDValue (.slice A1 n1 c1) a0.Slots, slC rDValue (.slice A2 n2 c2) a0.More, boxC B4 42 [.int .i64 a0.Kind, .int .i64 a0.Shape, .int .i64 a0.Flags, .int .i64 a0.Age, .slice A1 n1 c1, .slice A2 n2 c2], boxC B5 42 [.int .i64 0, .int .i64 0, .int .i64 0, .int .i64 0, .slice none 0 0, .slice none 0 0], mapC ekI evB M11 p14, boxC B12 59 [.map (some M11)], ownC rDValue 38 (.slice A22 n22 c22) y21.Slots, ownC rDValue 38 (.slice A30 n30 c30) p30, boxC B24 42 [.int .i64 y21.Kind, .int .i64 y21.Shape, .int .i64 y21.Flags, .int .i64 y21.Age, .slice A22 n22 c22, .slice A30 n30 c30], ownC rDValue 38 (.slice A31 n31 c31) p31, boxC B25 25 [.slice A31 n31 c31], boxC B44 38 [.int .i64 p46, .int .i64 p47, .string p48]]) ?_ ?_
          · refine run ?_
            obtain ⟨b49, hb49, h⟩ := bind_elim h
            refine G_segb 6 68 b49 ?_ ?_
            · clear h
              refine G_case 62 rfl (fun g49 => ?_) (fun g49 => ?_)
              · have h := cond_t g49 hb49
                refine run ?_
                refine G_rd (rd_look1 (a := x43.N) (z := false) 6 rfl map_rw rfl rfl Try.underlying59 (keyOk_int Try.underlying3) zero4) rfl (g_tt g49 rfl) rfl ?_
                refine run ?_
                obtain rfl := Option.some.inj h
                exact G_joined (sub_cons rfl (sub_skip (sub_skip (sub_skip (sub_skip (sub_skip (sub_skip sub_refl rfl) rfl) rfl) rfl) rfl) rfl)) (cv_sel [0, 1, 2, 3, 4, 5, 6, 7, 8, 9, 10, 11, 12] 13 rfl rfl)
              · have h := cond_f g49 hb49
                refine run ?_
                obtain rfl := Option.some.inj h
                exact G_joined (sub_cons rfl (sub_skip (sub_skip (sub_skip (sub_skip (sub_skip (sub_skip sub_refl rfl) rfl) rfl) rfl) rfl) rfl)) (cv_sel [0, 1, 2, 3, 4, 5, 6, 7, 8, 9, 10, 11, 12] 13 rfl rfl)
            refine run ?_
            refine G_cond rfl (fun g50 => ?_) (fun g50 => ?_)
            · replace h := cond_t g50 h
              refine G_region ?_
              refine G_ev (ev_build rfl (bld_38_)) rfl rfl rfl ?_
              refine G_opn (op_store (us := [.int .i64 0, .int .i64 0, .string (⟨#[]⟩)]) (cs' := [.int .i64 0, .int .i64 0, .string (⟨#[]⟩)]) 0 rfl rfl rfl rfl size38 rfl rfl rfl) rfl rfl ?_
              rintro _ _ rfl
              refine G_norm ([boxC B44 38 [.int .i64 0, .int .i64 0, .string (⟨#[]⟩)], slC rDValue (.slice A29 n29 c29) x28.2, slC rDValue (.slice A1 n1 c1) a0.Slots, slC rDValue (.slice A2 n2 c2) a0.More, boxC B4 42 [.int .i64 a0.Kind, .int .i64 a0.Shape, .int .i64 a0.Flags, .int .i64 a0.Age, .slice A1 n1 c1, .slice A2 n2 c2], boxC B5 42 [.int .i64 0, .int .i64 0, .int .i64 0, .int .i64 0, .slice none 0 0, .slice none 0 0], mapC ekI evB M11 p14, boxC B12 59 [.map (some M11)], ownC rDValue 38 (.slice A22 n22 c22) y21.Slots, ownC rDValue 38 (.slice A30 n30 c30) p30, boxC B24 42 [.int .i64 y21.Kind, .int .i64 y21.Shape, .int .i64 y21.Flags, .int .i64 y21.Age, .slice A22 n22 c22, .slice A30 n30 c30], ownC rDValue 38 (.slice A31 n31 c31) p31, boxC B25 25 [.slice A31 n31 c31]]) rfl ?_
              refine run ?_
              exact ⟨_, _, ⟨0, 0, ⟨#[]⟩, h, rfl, rfl⟩, sub_cons rfl (sub_cons rfl (sub_cons rfl (sub_cons rfl (sub_cons rfl (sub_cons rfl (sub_cons rfl (sub_cons rfl sub_nil))))))), cv_sel [1, 2, 3, 4, 5, 6, 7, 8, 9, 10, 11, 12, 0] 13 rfl rfl⟩
            · replace h := cond_f g50 h
              refine run ?_
              exact ⟨_, _, ⟨x43.Kind, x43.N, x43.S, h, rfl, rfl⟩, sub_cons rfl (sub_cons rfl (sub_cons rfl (sub_cons rfl (sub_cons rfl (sub_cons rfl (sub_cons rfl (sub_cons rfl sub_nil))))))), cv_sel [1, 2, 3, 4, 5, 6, 7, 8, 9, 10, 11, 12, 0] 13 rfl rfl⟩
          · rintro _ _ ⟨p46, p47, p48, h, rfl, rfl⟩
            obtain ⟨x51, hx51, h⟩ := bind_elim h
            obtain ⟨lx51, ux51, hx51⟩ := getE_elim hx51
            obtain ⟨x52, hx52, h⟩ := bind_elim h
            obtain ⟨lx52, ux52, hx52⟩ := getE_elim hx52
            obtain ⟨x53, hx53, h⟩ := bind_elim h
            obtain ⟨lx53, ux53, hx53⟩ := getE_elim hx53
            refine G_sub (t := [(2, .pointer (some ⟨B4, 0, none⟩)), (4, .pointer (some ⟨B5, 0, none⟩)), (5, .slice none 0 0), (6, .pointer (some ⟨B12, 0, none⟩)), (9, .pointer (some ⟨B24, 0, none⟩)), (10, .pointer (some ⟨B25, 0, none⟩)), (12, .slice A29 n29 c29), (13, .pointer (some ⟨B44, 0, none⟩))]) ?_ subT (cv_refl _)
            refine G_monoX (by kernel_rfl) 13 [] [1, 12] [70, 71, 72, 73, 74, 75, 76, 77, 78, 79, 80, 81, 82] [[], [0], [], [2], [3], [], [5], [6], [], [], [9], [10], [4, 7, 8, 11]] [aV (.pointer (some ⟨B24, 5, none⟩)),
 aV (.slice A30 n30 c30),
 aV (.slice A29 n29 c29),
 aV (elemQ (.slice A29 n29 c29) ((0 : Int).toNat) 3 0),
 aV (.agg #[.int .i64 x51.Kind, .int .i64 x51.N, .string x51.S]),
 aV (.slice A29 n29 c29),
 aV (elemQ (.slice A29 n29 c29) ((1 : Int).toNat) 3 0),
 aV (.agg #[.int .i64 x52.Kind, .int .i64 x52.N, .string x52.S]),
 aV (.agg #[.int .i64 p46, .int .i64 p47, .string p48]),
 aV (.slice A29 n29 c29),
 aV (elemQ (.slice A29 n29 c29) ((3 : Int).toNat) 3 0),
 aV (.agg #[.int .i64 x53.Kind, .int .i64 x53.N, .string x53.S]),
 aX3 (fun (A55 : Option Addr) (n55 c55 : Nat) => .slice A55 n55 c55) (fun A55 n55 c55 => [ownC rDValue 38 (.slice A55 n55 c55) ([x51, x52, (⟨p46, p47, p48⟩ : DValue), x53] : List DValue)])] [] (cv_refl _) (qB_nil) (by kernel_rfl) rfl rfl ?_ ?_ ?_
            · exact qs_nil
            · refine steps_cons rfl ?_ ?_
              · refine X_op (op_bslice (R := rDValue) (vss := [[.int .i64 x51.Kind, .int .i64 x51.N, .string x51.S], [.int .i64 x52.Kind, .int .i64 x52.N, .string x52.S], [.int .i64 p46, .int .i64 p47, .string p48], [.int .i64 x53.Kind, .int .i64 x53.N, .string x53.S]]) (xs := [x51, x52, (⟨p46, p47, p48⟩ : DValue), x53]) rfl (bsl_25_4 _ _ _ _ _ _ _ _ _ _ _ _) rfl rfl (fun _ _ hr => .cons rfl (.cons rfl (.cons rfl (.cons rfl All2.nil))))) rfl ?_
                rintro _ _ ⟨A54, n54, c54, rfl, rfl⟩
                exact cvp3 A54 n54 c54 (cv_refl _)
              refine steps_cons rfl ?_ ?_
              · exact X_rd (rd_elemS (us := [.int .i64 x53.Kind, .int .i64 x53.N, .string x53.S]) 0 rfl els_sl rfl hx53 agg38 (fun _ _ _ h => by rw [show _ = _ from h]; rfl)) rfl (cvpV rfl (cv_refl _))
              refine steps_cons rfl ?_ ?_
              · exact X_rd (rd_idx 0 rfl els_sl rfl rfl Try.underlying25 size38 lx53 ux53) rfl (cvpV rfl (cv_refl _))
              refine steps_cons rfl ?_ ?_
              · exact X_ev (ev_move rfl) rfl (cvpV rfl (cv_refl _))
              refine steps_cons rfl ?_ ?_
              · exact X_rd (rd_boxS (us := [.int .i64 p46, .int .i64 p47, .string p48]) 12 rfl rfl agg38 rfl) rfl (cvpV rfl (cv_refl _))
              refine steps_cons rfl ?_ ?_
              · exact X_rd (rd_elemS (us := [.int .i64 x52.Kind, .int .i64 x52.N, .string x52.S]) 0 rfl els_sl rfl hx52 agg38 (fun _ _ _ h => by rw [show _ = _ from h]; rfl)) rfl (cvpV rfl (cv_refl _))
              refine steps_cons rfl ?_ ?_
              · exact X_rd (rd_idx 0 rfl els_sl rfl rfl Try.underlying25 size38 lx52 ux52) rfl (cvpV rfl (cv_refl _))
              refine steps_cons rfl ?_ ?_
              · exact X_ev (ev_move rfl) rfl (cvpV rfl (cv_refl _))
              refine steps_cons rfl ?_ ?_
              · exact X_rd (rd_elemS (us := [.int .i64 x51.Kind, .int .i64 x51.N, .string x51.S]) 0 rfl els_sl rfl hx51 agg38 (fun _ _ _ h => by rw [show _ = _ from h]; rfl)) rfl (cvpV rfl (cv_refl _))
              refine steps_cons rfl ?_ ?_
              · exact X_rd (rd_idx 0 rfl els_sl rfl rfl Try.underlying25 size38 lx51 ux51) rfl (cvpV rfl (cv_refl _))
              refine steps_cons rfl ?_ ?_
              · exact X_ev (ev_move rfl) rfl (cvpV rfl (cv_refl _))
              refine steps_cons rfl ?_ ?_
              · exact X_rd (rd_box1 9 rfl rfl one25 rfl) rfl (cvpV rfl (cv_refl _))
              refine steps_cons rfl ?_ ?_
              · exact X_ev (ev_fa rfl fa_42_5) rfl (cvpV rfl (cv_refl _))
              exact steps_nil
            · intro A55 n55 c55
              refine N_sub (t := [(71, .slice A30 n30 c30), (82, .slice A55 n55 c55), (2, .pointer (some ⟨B4, 0, none⟩)), (4, .pointer (some ⟨B5, 0, none⟩)), (5, .slice none 0 0), (6, .pointer (some ⟨B12, 0, none⟩)), (9, .pointer (some ⟨B24, 0, none⟩)), (10, .pointer (some ⟨B25, 0, none⟩)), (12, .slice A29 n29 c29), (13, .pointer (some ⟨B44, 0, none⟩))]) (L' := [ownC rDValue 38 (.slice A55 n55 c55) ([x51, x52, (⟨p46, p47, p48⟩ : DValue), x53] : List DValue), slC rDValue (.slice A29 n29 c29) x28.2, slC rDValue (.slice A1 n1 c1) a0.Slots, slC rDValue (.slice A2 n2 c2) a0.More, boxC B4 42 [.int .i64 a0.Kind, .int .i64 a0.Shape, .int .i64 a0.Flags, .int .i64 a0.Age, .slice A1 n1 c1, .slice A2 n2 c2], boxC B5 42 [.int .i64 0, .int .i64 0, .int .i64 0, .int .i64 0, .slice none 0 0, .slice none 0 0], mapC ekI evB M11 p14, boxC B12 59 [.map (some M11)], ownC rDValue 38 (.slice A22 n22 c22) y21.Slots, ownC rDValue 38 (.slice A30 n30 c30) p30, boxC B24 42 [.int .i64 y21.Kind, .int .i64 y21.Shape, .int .i64 y21.Flags, .int .i64 y21.Age, .slice A22 n22 c22, .slice A30 n30 c30], ownC rDValue 38 (.slice A31 n31 c31) p31, boxC B25 25 [.slice A31 n31 c31], boxC B44 38 [.int .i64 p46, .int .i64 p47, .string p48]]) ?_ subT (cv_refl _)
              obtain ⟨q56, h⟩ := req_elim h
              refine N_opd 13 rfl (by kernel_rfl) (op_append 9 0 rfl rfl els_own rfl rfl Try.underlying25 zb38 rfl rfl q56) rfl rfl rfl ?_
              rintro _ _ ⟨A57, n57, c57, rfl, rfl⟩
              refine N_norm ([ownC rDValue 38 (.slice A55 n55 c55) ([x51, x52, (⟨p46, p47, p48⟩ : DValue), x53] : List DValue), slC rDValue (.slice A29 n29 c29) x28.2, slC rDValue (.slice A1 n1 c1) a0.Slots, slC rDValue (.slice A2 n2 c2) a0.More, boxC B4 42 [.int .i64 a0.Kind, .int .i64 a0.Shape, .int .i64 a0.Flags, .int .i64 a0.Age, .slice A1 n1 c1, .slice A2 n2 c2], boxC B5 42 [.int .i64 0, .int .i64 0, .int .i64 0, .int .i64 0, .slice none 0 0, .slice none 0 0], mapC ekI evB M11 p14, boxC B12 59 [.map (some M11)], ownC rDValue 38 (.slice A22 n22 c22) y21.Slots, ownC rDValue 38 (.slice A57 n57 c57) (p30 ++ ([x51, x52, (⟨p46, p47, p48⟩ : DValue), x53] : List DValue)), boxC B24 42 [.int .i64 y21.Kind, .int .i64 y21.Shape, .int .i64 y21.Flags, .int .i64 y21.Age, .slice A22 n22 c22, .slice A30 n30 c30], ownC rDValue 38 (.slice A31 n31 c31) p31, boxC B25 25 [.slice A31 n31 c31], boxC B44 38 [.int .i64 p46, .int .i64 p47, .string p48]]) rfl ?_
              refine N_ev 14 rfl (by kernel_rfl) (ev_fa rfl fa_42_5) rfl rfl rfl ?_
              refine N_opn 15 rfl (by kernel_rfl) (op_store (us := [.slice A57 n57 c57]) (cs' := [.int .i64 y21.Kind, .int .i64 y21.Shape, .int .i64 y21.Flags, .int .i64 y21.Age, .slice A22 n22 c22, .slice A57 n57 c57]) 10 rfl rfl rfl rfl size25 rfl rfl rfl) rfl rfl ?_
              rintro _ _ rfl
              refine N_norm ([ownC rDValue 38 (.slice A55 n55 c55) ([x51, x52, (⟨p46, p47, p48⟩ : DValue), x53] : List DValue), slC rDValue (.slice A29 n29 c29) x28.2, slC rDValue (.slice A1 n1 c1) a0.Slots, slC rDValue (.slice A2 n2 c2) a0.More, boxC B4 42 [.int .i64 a0.Kind, .int .i64 a0.Shape, .int .i64 a0.Flags, .int .i64 a0.Age, .slice A1 n1 c1, .slice A2 n2 c2], boxC B5 42 [.int .i64 0, .int .i64 0, .int .i64 0, .int .i64 0, .slice none 0 0, .slice none 0 0], mapC ekI evB M11 p14, boxC B12 59 [.map (some M11)], ownC rDValue 38 (.slice A22 n22 c22) y21.Slots, ownC rDValue 38 (.slice A57 n57 c57) (p30 ++ ([x51, x52, (⟨p46, p47, p48⟩ : DValue), x53] : List DValue)), boxC B24 42 [.int .i64 y21.Kind, .int .i64 y21.Shape, .int .i64 y21.Flags, .int .i64 y21.Age, .slice A22 n22 c22, .slice A57 n57 c57], ownC rDValue 38 (.slice A31 n31 c31) p31, boxC B25 25 [.slice A31 n31 c31], boxC B44 38 [.int .i64 p46, .int .i64 p47, .string p48]]) rfl ?_
              refine N_done (by kernel_rfl) ?_
              refine bk_n ?_
              obtain ⟨rfl, rfl⟩ := Prod.mk.inj (Option.some.inj h)
              exact RK_n ((cv_sel [2, 3, 4, 5, 6, 7, 8, 9, 10, 11, 12] 14 rfl rfl).trans (cv_pack1 ((A57, n57, c57), (A31, n31, c31)) rfl))
      · rintro ⟨⟨A30, n30, c30⟩, ⟨A31, n31, c31⟩⟩ h
        refine K3_norm ([slC rDValue (.slice A1 n1 c1) a0.Slots, slC rDValue (.slice A2 n2 c2) a0.More, boxC B4 42 [.int .i64 a0.Kind, .int .i64 a0.Shape, .int .i64 a0.Flags, .int .i64 a0.Age, .slice A1 n1 c1, .slice A2 n2 c2], boxC B5 42 [.int .i64 0, .int .i64 0, .int .i64 0, .int .i64 0, .slice none 0 0, .slice none 0 0], mapC ekI evB M11 p14, boxC B12 59 [.map (some M11)], ownC rDValue 38 (.slice A22 n22 c22) y21.Slots, ownC rDValue 38 (.slice A30 n30 c30) y32.2.1, boxC B24 42 [.int .i64 y21.Kind, .int .i64 y21.Shape, .int .i64 y21.Flags, .int .i64 y21.Age, .slice A22 n22 c22, .slice A30 n30 c30], ownC rDValue 38 (.slice A31 n31 c31) y32.2.2, boxC B25 25 [.slice A31 n31 c31]]) rfl ?_
        refine run ?_
        refine G_seq ?_
        refine G_drawn (by kernel_rfl) ([slC rDValue (.slice A1 n1 c1) a0.Slots, slC rDValue (.slice A2 n2 c2) a0.More, boxC B4 42 [.int .i64 a0.Kind, .int .i64 a0.Shape, .int .i64 a0.Flags, .int .i64 a0.Age, .slice A1 n1 c1, .slice A2 n2 c2], mapC ekI evB M11 p14, boxC B12 59 [.map (some M11)], ownC rDValue 38 (.slice A22 n22 c22) y21.Slots, ownC rDValue 38 (.slice A30 n30 c30) y32.2.1, boxC B24 42 [.int .i64 y21.Kind, .int .i64 y21.Shape, .int .i64 y21.Flags, .int .i64 y21.Age, .slice A22 n22 c22, .slice A30 n30 c30], ownC rDValue 38 (.slice A31 n31 c31) y32.2.2, boxC B25 25 [.slice A31 n31 c31]]) (cv_sel [0, 1, 2, 4, 5, 6, 7, 8, 9, 10] 11 rfl rfl) ?_
        refine T3_rd 0 rfl (by kernel_rfl) (rd_boxS (us := [.int .i64 y21.Kind, .int .i64 y21.Shape, .int .i64 y21.Flags, .int .i64 y21.Age, .slice A22 n22 c22, .slice A30 n30 c30]) 7 rfl rfl agg42 rfl) rfl rfl ?_
        refine T3_rd 1 rfl (by kernel_rfl) (rd_box1 9 rfl rfl one25 rfl) rfl rfl ?_
        refine T3_opn 2 rfl (by kernel_rfl) (op_store (us := [.int .i64 y21.Kind, .int .i64 y21.Shape, .int .i64 y21.Flags, .int .i64 y21.Age, .slice A22 n22 c22, .slice A30 n30 c30]) (cs' := [.int .i64 y21.Kind, .int .i64 y21.Shape, .int .i64 y21.Flags, .int .i64 y21.Age, .slice A22 n22 c22, .slice A30 n30 c30]) 3 rfl rfl rfl rfl size42 rfl rfl rfl) rfl rfl ?_
        rintro _ _ rfl
        refine ⟨[slC rDValue (.slice A1 n1 c1) a0.Slots, slC rDValue (.slice A2 n2 c2) a0.More, boxC B4 42 [.int .i64 a0.Kind, .int .i64 a0.Shape, .int .i64 a0.Flags, .int .i64 a0.Age, .slice A1 n1 c1, .slice A2 n2 c2], mapC ekI evB M11 p14, boxC B12 59 [.map (some M11)], ownC rDValue 38 (.slice A22 n22 c22) y21.Slots, ownC rDValue 38 (.slice A30 n30 c30) y32.2.1, boxC B24 42 [.int .i64 y21.Kind, .int .i64 y21.Shape, .int .i64 y21.Flags, .int .i64 y21.Age, .slice A22 n22 c22, .slice A30 n30 c30], ownC rDValue 38 (.slice A31 n31 c31) y32.2.2, boxC B25 25 [.slice A31 n31 c31]], cv_sel [0, 1, 2, 4, 5, 6, 7, 8, 9, 10] 11 rfl rfl, cv_refl _, ?_⟩
        refine T3_norm ([slC rDValue (.slice A1 n1 c1) a0.Slots, slC rDValue (.slice A2 n2 c2) a0.More, boxC B4 42 [.int .i64 a0.Kind, .int .i64 a0.Shape, .int .i64 a0.Flags, .int .i64 a0.Age, .slice A1 n1 c1, .slice A2 n2 c2], boxC B5 42 [.int .i64 y21.Kind, .int .i64 y21.Shape, .int .i64 y21.Flags, .int .i64 y21.Age, .slice A22 n22 c22, .slice A30 n30 c30], mapC ekI evB M11 p14, boxC B12 59 [.map (some M11)], ownC rDValue 38 (.slice A22 n22 c22) y21.Slots, ownC rDValue 38 (.slice A30 n30 c30) y32.2.1, boxC B24 42 [.int .i64 y21.Kind, .int .i64 y21.Shape, .int .i64 y21.Flags, .int .i64 y21.Age, .slice A22 n22 c22, .slice A30 n30 c30], ownC rDValue 38 (.slice A31 n31 c31) y32.2.2, boxC B25 25 [.slice A31 n31 c31]]) rfl ?_
        refine T3_ev 3 rfl (by kernel_rfl) (ev_assign rfl) rfl rfl ?_
        refine T3_done (by kernel_rfl) ?_
        refine run ?_
        obtain rfl := Option.some.inj h
        exact endGl (rs := [.cell 4 42, .tmp 5]) (vs := [.agg #[.int .i64 y21.Kind, .int .i64 y21.Shape, .int .i64 y21.Flags, .int .i64 y21.Age, .slice A22 n22 c22, .slice A30 n30 c30], .slice A31 n31 c31]) rfl (.cons (rv_boxS 3 rfl rfl agg42) (.cons (rv_tmp rfl) .nil)) rfl (cv_sel [6, 7, 9] 11 rfl rfl) ⟨_, _, _, _, _, _, _, _, _, rfl, rfl⟩
      · rintro ⟨⟨A30, n30, c30⟩, ⟨A31, n31, c31⟩⟩ h
        exact none_some h
      · rintro i ⟨⟨A30, n30, c30⟩, ⟨A31, n31, c31⟩⟩ h
        exact none_some h
def major_moved_j3 (N : Nat) (p4 : (List DValue)) : Option (List DValue) :=
  some p4
def major_moved_j12 (N : Nat) (kb5 : (List DValue) → Int → Option (List DValue)) (a0 : (List DValue)) (p7 : Int) (a1 : (List (Int × Int))) (p6 : (List DValue)) (x10 : DValue) (p13 : Int) : Option (List DValue) :=
  req (fitsL (p6.length + ([(⟨x10.Kind, p13, x10.S⟩ : DValue)] : List DValue).length)) (req (in64 (p7 + 1)) (kb5 (p6 ++ ([(⟨x10.Kind, p13, x10.S⟩ : DValue)] : List DValue)) (p7 + 1)))
def major_moved_l5 (N : Nat) (a0 : (List DValue)) (a1 : (List (Int × Int))) : Nat → (List DValue) → Int → Option (List DValue)
  | 0, _, _ => none
  | m5 + 1, p6, p7 => bif decide (p7 < (a0.length : Int)) then ((getE a0 p7).bind fun x10 => (bif (lk a1 x10.N).isSome then ((bif decide (x10.Kind = 7) then (some true) else (some (decide (x10.Kind = 9)))).bind fun b15 => some b15) else (some false)).bind fun b14 => bif b14 then (major_moved_j12 N (major_moved_l5 N a0 a1 m5) a0 p7 a1 p6 x10 ((lk a1 x10.N).getD 0)) else (major_moved_j12 N (major_moved_l5 N a0 a1 m5) a0 p7 a1 p6 x10 x10.N)) else (major_moved_j3 N p6)
theorem major_moved_l5_s {N m5 : Nat} {a0 : (List DValue)} {a1 : (List (Int × Int))} {p6 : (List DValue)} {p7 : Int} : major_moved_l5 N a0 a1 (m5 + 1) p6 p7 = bif decide (p7 < (a0.length : Int)) then ((getE a0 p7).bind fun x10 => (bif (lk a1 x10.N).isSome then ((bif decide (x10.Kind = 7) then (some true) else (some (decide (x10.Kind = 9)))).bind fun b15 => some b15) else (some false)).bind fun b14 => bif b14 then (major_moved_j12 N (major_moved_l5 N a0 a1 m5) a0 p7 a1 p6 x10 ((lk a1 x10.N).getD 0)) else (major_moved_j12 N (major_moved_l5 N a0 a1 m5) a0 p7 a1 p6 x10 x10.N)) else (major_moved_j3 N p6) := rfl
def major_moved_O (N : Nat) (a0 : (List DValue)) (a1 : (List (Int × Int))) : Option (List DValue) :=
  major_moved_l5 N a0 a1 N [] 0
theorem major_moved_ok {N : Nat} {a0 : (List DValue)} {a1 : (List (Int × Int))} {r : (List DValue)} (h : major_moved_O N a0 a1 = some r) {A1 : Option Addr} {n1 c1 : Nat} {M2 : Nat} : Okc Try.prog 103 [.slice A1 n1 c1, .map (some M2)] ([slC rDValue (.slice A1 n1 c1) a0, romC ekI evI M2 a1]) (fun (u : Value) (post : List Chunk) => ∃ A0 n0 c0, u = .slice A0 n0 c0 ∧ post = [ownC rDValue 38 (.slice A0 n0 c0) r]) := by
  refine ok_E Try.func103 rfl rfl ?_
  simp only [envOf]
  refine run ?_
  refine G_joinF (fun s L => ∃ (p4 : (List DValue)) (A4 : Option Addr) (n4 c4 : Nat), major_moved_j3 N p4 = some r ∧ s = [(4, .slice none 0 0), (5, .slice A4 n4 c4)] ∧ L = [ownC rDValue 38 (.slice A4 n4 c4) p4]) ?_ ?_
  · refine run ?_
    refine G_rd (rd_len 0 rfl els_sl rfl Try.underlying25) rfl rfl rfl ?_
    refine run ?_
    refine G_loopF (fun m s L => ∃ (p6 : (List DValue)) (p7 : Int) (A6 : Option Addr) (n6 c6 : Nat), major_moved_l5 N a0 a1 m p6 p7 = some r ∧ s = [(1, .map (some M2)), (4, .slice none 0 0), (5, .slice A6 n6 c6), (10, .slice A1 n1 c1), (11, .int .i64 (a0.length : Int)), (12, .int .i64 p7)] ∧ L = [romC ekI evI M2 a1, ownC rDValue 38 (.slice A6 n6 c6) p6, slC rDValue (.slice A1 n1 c1) a0]) N _ _ ⟨[], 0, none, 0, 0, h, rfl, rfl⟩ (sub_cons rfl (sub_cons rfl (sub_cons rfl (sub_cons rfl (sub_cons rfl (sub_cons rfl sub_nil)))))) ((cv_nil rDValue 38 _).trans (cv_sel [2, 0, 1] 3 rfl rfl)) ?_
    rintro (_ | m5) _ _ ⟨p6, p7, A6, n6, c6, h, rfl, rfl⟩
    · exact none_some h
    rw [major_moved_l5_s] at h
    refine run ?_
    refine G_seq ?_
    refine G_cond rfl (fun g9 => ?_) (fun g9 => ?_)
    · replace h := cond_t g9 h
      refine run ?_
      refine G_seq ?_
      refine run ?_
      obtain ⟨x10, hx10, h⟩ := bind_elim h
      obtain ⟨lx10, ux10, hx10⟩ := getE_elim hx10
      refine G_rd (rd_idx 2 rfl els_sl rfl rfl Try.underlying25 size38 lx10 ux10) rfl rfl rfl ?_
      refine G_rd (rd_elemS (us := [.int .i64 x10.Kind, .int .i64 x10.N, .string x10.S]) 2 rfl els_sl rfl hx10 agg38 (fun _ _ _ h => by rw [show _ = _ from h]; rfl)) rfl rfl rfl ?_
      refine G_opd (op_alloc zero38 rfl) rfl rfl rfl ?_
      rintro _ _ ⟨B11, rfl, rfl⟩
      refine G_opn (op_store (us := [.int .i64 x10.Kind, .int .i64 x10.N, .string x10.S]) (cs' := [.int .i64 x10.Kind, .int .i64 x10.N, .string x10.S]) 0 rfl rfl rfl rfl size38 rfl rfl rfl) rfl rfl ?_
      rintro _ _ rfl
      refine G_norm ([boxC B11 38 [.int .i64 x10.Kind, .int .i64 x10.N, .string x10.S], romC ekI evI M2 a1, ownC rDValue 38 (.slice A6 n6 c6) p6, slC rDValue (.slice A1 n1 c1) a0]) rfl ?_
      refine run ?_
      refine G_joinF (fun s L => ∃ (p13 : Int), major_moved_j12 N (major_moved_l5 N a0 a1 m5) a0 p7 a1 p6 x10 p13 = some r ∧ s = [(1, .map (some M2)), (4, .slice none 0 0), (5, .slice A6 n6 c6), (7, .pointer (some ⟨B11, 0, none⟩)), (10, .slice A1 n1 c1), (11, .int .i64 (a0.length : Int)), (12, .int .i64 p7)] ∧ L = [romC ekI evI M2 a1, ownC rDValue 38 (.slice A6 n6 c6) p6, slC rDValue (.slice A1 n1 c1) a0, boxC B11 38 [.int .i64 x10.Kind, .int .i64 p13, .string x10.S]]) ?_ ?_
      · refine run ?_
        refine G_rd (rd_look2 (a := x10.N) (z := 0) 1 rfl map_ro rfl rfl Try.underlying83 (keyOk_int Try.underlying3) zero3) rfl rfl rfl ?_
        refine run ?_
        obtain ⟨b14, hb14, h⟩ := bind_elim h
        refine G_segb 9 33 b14 ?_ ?_
        · clear h
          refine G_case 24 rfl (fun g14 => ?_) (fun g14 => ?_)
          · have h := cond_t g14 hb14
            refine run ?_
            obtain ⟨b15, hb15, h⟩ := bind_elim h
            refine G_segb 4 32 b15 ?_ ?_
            · clear h
              refine G_case 28 rfl (fun g15 => ?_) (fun g15 => ?_)
              · have h := cond_t g15 hb15
                refine run ?_
                obtain rfl := Option.some.inj h
                exact G_joined (sub_cons rfl (sub_skip (sub_skip (sub_skip (sub_skip sub_refl rfl) rfl) rfl) rfl)) (cv_sel [0, 1, 2, 3] 4 rfl rfl)
              · have h := cond_f g15 hb15
                refine run ?_
                obtain rfl := Option.some.inj h
                exact G_joined (sub_cons rfl (sub_skip (sub_skip (sub_skip (sub_skip sub_refl rfl) rfl) rfl) rfl)) (cv_sel [0, 1, 2, 3] 4 rfl rfl)
            refine run ?_
            obtain rfl := Option.some.inj h
            exact G_joined (sub_cons rfl (sub_skip (sub_skip (sub_skip (sub_skip (sub_skip (sub_skip sub_refl rfl) rfl) rfl) rfl) rfl) rfl)) (cv_sel [0, 1, 2, 3] 4 rfl rfl)
          · have h := cond_f g14 hb14
            refine run ?_
            obtain rfl := Option.some.inj h
            exact G_joined (sub_cons rfl (sub_skip (sub_skip (sub_skip (sub_skip (sub_skip (sub_skip (sub_skip (sub_skip (sub_skip sub_refl rfl) rfl) rfl) rfl) rfl) rfl) rfl) rfl) rfl)) (cv_sel [0, 1, 2, 3] 4 rfl rfl)
        refine run ?_
        refine G_cond rfl (fun g16 => ?_) (fun g16 => ?_)
        · replace h := cond_t g16 h
          refine run ?_
          refine G_opn (op_store (us := [.int .i64 ((lk a1 x10.N).getD 0)]) (cs' := [.int .i64 x10.Kind, .int .i64 ((lk a1 x10.N).getD 0), .string x10.S]) 0 rfl rfl rfl rfl size3 rfl rfl rfl) rfl rfl ?_
          rintro _ _ rfl
          refine G_norm ([boxC B11 38 [.int .i64 x10.Kind, .int .i64 ((lk a1 x10.N).getD 0), .string x10.S], romC ekI evI M2 a1, ownC rDValue 38 (.slice A6 n6 c6) p6, slC rDValue (.slice A1 n1 c1) a0]) rfl ?_
          refine run ?_
          exact ⟨_, _, ⟨(lk a1 x10.N).getD 0, h, rfl, rfl⟩, sub_cons rfl (sub_cons rfl (sub_cons rfl (sub_cons rfl (sub_cons rfl (sub_cons rfl (sub_cons rfl sub_nil)))))), cv_sel [1, 2, 3, 0] 4 rfl rfl⟩
        · replace h := cond_f g16 h
          refine run ?_
          exact ⟨_, _, ⟨x10.N, h, rfl, rfl⟩, sub_cons rfl (sub_cons rfl (sub_cons rfl (sub_cons rfl (sub_cons rfl (sub_cons rfl (sub_cons rfl sub_nil)))))), cv_sel [1, 2, 3, 0] 4 rfl rfl⟩
      · rintro _ _ ⟨p13, h, rfl, rfl⟩
        refine run ?_
        refine G_rd (rd_boxS (us := [.int .i64 x10.Kind, .int .i64 p13, .string x10.S]) 3 rfl rfl agg38 rfl) rfl rfl rfl ?_
        refine G_opd (op_bslice (R := rDValue) (vss := [[.int .i64 x10.Kind, .int .i64 p13, .string x10.S]]) (xs := [(⟨x10.Kind, p13, x10.S⟩ : DValue)]) rfl (bsl_25_1 _ _ _) rfl rfl (fun _ _ hr => .cons rfl All2.nil)) rfl rfl rfl ?_
        rintro _ _ ⟨A17, n17, c17, rfl, rfl⟩
        obtain ⟨q18, h⟩ := req_elim h
        refine G_opd (op_append 2 0 rfl rfl els_own rfl rfl Try.underlying25 zb38 rfl rfl q18) rfl rfl rfl ?_
        rintro _ _ ⟨A19, n19, c19, rfl, rfl⟩
        refine G_norm ([ownC rDValue 38 (.slice A17 n17 c17) ([(⟨x10.Kind, p13, x10.S⟩ : DValue)] : List DValue), romC ekI evI M2 a1, ownC rDValue 38 (.slice A19 n19 c19) (p6 ++ ([(⟨x10.Kind, p13, x10.S⟩ : DValue)] : List DValue)), slC rDValue (.slice A1 n1 c1) a0, boxC B11 38 [.int .i64 x10.Kind, .int .i64 p13, .string x10.S]]) rfl ?_
        refine run ?_
        obtain ⟨q20, h⟩ := req_elim h
        refine G_ev (ev_add rfl rfl q20.1 q20.2) rfl rfl rfl ?_
        refine run ?_
        exact ⟨m5, _, _, Nat.lt_succ_self _, ⟨p6 ++ ([(⟨x10.Kind, p13, x10.S⟩ : DValue)] : List DValue), p7 + 1, A19, n19, c19, h, rfl, rfl⟩, sub_cons rfl (sub_cons rfl (sub_cons rfl (sub_cons rfl (sub_cons rfl (sub_cons rfl sub_nil))))), cv_sel [1, 2, 3] 5 rfl rfl⟩
    · replace h := cond_f g9 h
      refine run ?_
      exact ⟨_, _, ⟨p6, A6, n6, c6, h, rfl, rfl⟩, sub_cons rfl (sub_cons rfl sub_nil), cv_sel [1] 3 rfl rfl⟩
  · rintro _ _ ⟨p4, A4, n4, c4, h, rfl, rfl⟩
    refine run ?_
    obtain rfl := Option.some.inj h
    exact endG1 rfl rfl (cv_sel [0] 1 rfl rfl) ⟨_, _, _, rfl, rfl⟩
theorem major_moved_free {r : (List DValue)} : ∀ v post, ((fun (u : Value) (post : List Chunk) => ∃ A0 n0 c0, u = .slice A0 n0 c0 ∧ post = [ownC rDValue 38 (.slice A0 n0 c0) r])) v post → ∀ c ∈ post, Free c := by
  rintro _ _ ⟨_, _, _, rfl, rfl⟩; exact mem_cons free_own (mem_nil)
def major_Collect_j37 (N : Nat) (a1 : (List DValue)) (a0 : DMemory) (p28 : (List DCell)) (y13 : ((List Int))) (y22 : (Option Exit × (List (Int × Int)))) (p38 : (List DValue)) (p39 : Int) (p40 : Int) (p41 : Int) (p42 : Int) (p43 : (List DValue)) (p44 : (List DValue)) : Option (Option Exit × (List DCell) × (List DValue)) :=
  (major_moved_O N p43 y22.2).bind fun y56 => (major_moved_O N p44 y22.2).bind fun y59 => req (fitsL (p28.length + ([(⟨p39, p40, p41, p42, y56, y59⟩ : DCell)] : List DCell).length)) (some (none, (p28 ++ ([(⟨p39, p40, p41, p42, y56, y59⟩ : DCell)] : List DCell), p38)))
def major_Collect_b27 (N : Nat) (a1 : (List DValue)) (a0 : DMemory) (y13 : ((List Int))) (y22 : (Option Exit × (List (Int × Int)))) (x27 : Int × Int) : ((List DCell) × (List DValue)) → Option (Option Exit × ((List DCell) × (List DValue)))
  | (p28, p29) => (reach_At_O N a0 x27.2).bind fun y33 => bif decide (y33.Kind = 8) then ((weak_Clean_O N y33 y13).bind fun y46 => major_Collect_j37 N a1 a0 p28 y13 y22 p29 y46.Kind y46.Shape y46.Flags y46.Age y46.Slots y46.More) else (bif decide (y33.Kind = 10) then ((finreg_Clean_O N y33 y13).bind fun y50 => req (fitsL (p29.length + y50.2.length)) (major_Collect_j37 N a1 a0 p28 y13 y22 (p29 ++ y50.2) y50.1.Kind y50.1.Shape y50.1.Flags y50.1.Age y50.1.Slots y50.1.More)) else (major_Collect_j37 N a1 a0 p28 y13 y22 p29 y33.Kind y33.Shape y33.Flags y33.Age y33.Slots y33.More))
def major_Collect_b20 (N : Nat) (a1 : (List DValue)) (a0 : DMemory) (y13 : ((List Int))) (x20 : Int × Int) : ((List (Int × Int))) → Option (Option Exit × (List (Int × Int)))
  | p21 => req (in64 (2 * x20.1)) (req (in64 ((2 * x20.1) + 2)) (some (none, upL p21 x20.2 ((2 * x20.1) + 2))))
def major_Collect_O (N : Nat) (a0 : DMemory) (a1 : (List DValue)) : Option (DMemory × (List DValue) × (List DValue) × Int) :=
  (major_check_O N a0 a1).bind fun y7 => bif !decide (y7 = 0) then (some ((⟨[], []⟩ : DMemory), [], [], y7)) else ((reach_Live_O N a0 a1).bind fun y13 => (major_order_O N y13).bind fun y18 => (major_order_c1_O N y13 (liftR (fun x st => major_Collect_b20 N a1 a0 y13 x st)) (none, ([] : (List (Int × Int))))).bind fun y22 => caseX y22.1 ((major_order_O N y13).bind fun y25 => (major_order_c1_O N y13 (liftR (fun x st => major_Collect_b27 N a1 a0 y13 y22 x st)) (none, ([], []))).bind fun y30 => caseX y30.1 ((major_moved_O N a1 y22.2).bind fun y65 => (major_moved_O N y30.2.2 y22.2).bind fun y68 => some ((⟨[], y30.2.1⟩ : DMemory), y65, y68, 0)) none (fun _ => none)) none (fun _ => none))
set_option maxHeartbeats 4000000 in
theorem major_Collect_ok {N : Nat} {a0 : DMemory} {a1 : (List DValue)} {r : (DMemory × (List DValue) × (List DValue) × Int)} (h : major_Collect_O N a0 a1 = some r) {A1 : Option Addr} {n1 c1 : Nat} {A2 : Option Addr} {n2 c2 : Nat} {A3 : Option Addr} {n3 c3 : Nat} : Okc Try.prog 65 [.agg #[.slice A1 n1 c1, .slice A2 n2 c2], .slice A3 n3 c3] ([slC rDCell (.slice A1 n1 c1) a0.Young, slC rDCell (.slice A2 n2 c2) a0.Old, slC rDValue (.slice A3 n3 c3) a1]) (fun (u : Value) (post : List Chunk) => ∃ A0 n0 c0 A1 n1 c1 A2 n2 c2 A3 n3 c3, u = .tuple #[.agg #[.slice A0 n0 c0, .slice A1 n1 c1], .slice A2 n2 c2, .slice A3 n3 c3, .int .i64 r.2.2.2] ∧ post = [ownC rDCell 42 (.slice A0 n0 c0) r.1.Young, ownC rDCell 42 (.slice A1 n1 c1) r.1.Old, ownC rDValue 38 (.slice A2 n2 c2) r.2.1, ownC rDValue 38 (.slice A3 n3 c3) r.2.2.1]) := by
  refine ok_E Try.func65 rfl rfl ?_
  simp only [envOf]
  refine run ?_
  refine G_opd (op_box rfl rfl) rfl rfl rfl ?_
  rintro _ _ ⟨B4, rfl, rfl⟩
  refine G_opd (op_alloc zero24 rfl) rfl rfl rfl ?_
  rintro _ _ ⟨B5, rfl, rfl⟩
  refine run ?_
  refine G_opd (op_alloc zero25 rfl) rfl rfl rfl ?_
  rintro _ _ ⟨B6, rfl, rfl⟩
  refine run ?_
  refine G_seq ?_
  refine run ?_
  refine G_rd (rd_boxS (us := [.slice A1 n1 c1, .slice A2 n2 c2]) 2 rfl rfl agg24 rfl) rfl rfl rfl ?_
  refine run ?_
  obtain ⟨y7, hy7, h⟩ := bind_elim h
  refine G_opd (op_callR (major_check_ok hy7) call102 rfl (mem_cons (lent_ro (i := 3) rfl rfl) (mem_cons (lent_ro (i := 4) rfl rfl) (mem_cons (lent_ro (i := 5) rfl rfl) mem_nil))) major_check_free) rfl rfl rfl ?_
  rintro _ _ ⟨_, ⟨rfl, rfl⟩, rfl⟩
  refine run ?_
  refine G_cond rfl (fun g8 => ?_) (fun g8 => ?_)
  · replace h := cond_t g8 h
    refine run ?_
    refine G_ev (ev_build rfl (bld_24_)) rfl rfl rfl ?_
    refine run ?_
    refine G_opn (op_store (us := [.slice none 0 0, .slice none 0 0]) (cs' := [.slice none 0 0, .slice none 0 0]) 1 rfl rfl rfl rfl size24 rfl rfl rfl) rfl rfl ?_
    rintro _ _ rfl
    refine G_norm ([boxC B6 25 [.slice none 0 0], boxC B5 24 [.slice none 0 0, .slice none 0 0], boxC B4 24 [.slice A1 n1 c1, .slice A2 n2 c2], slC rDCell (.slice A1 n1 c1) a0.Young, slC rDCell (.slice A2 n2 c2) a0.Old, slC rDValue (.slice A3 n3 c3) a1]) rfl ?_
    refine run ?_
    refine G_opn (op_store (us := [.slice none 0 0]) (cs' := [.slice none 0 0]) 0 rfl rfl rfl rfl size25 rfl rfl rfl) rfl rfl ?_
    rintro _ _ rfl
    refine G_norm ([boxC B6 25 [.slice none 0 0], boxC B5 24 [.slice none 0 0, .slice none 0 0], boxC B4 24 [.slice A1 n1 c1, .slice A2 n2 c2], slC rDCell (.slice A1 n1 c1) a0.Young, slC rDCell (.slice A2 n2 c2) a0.Old, slC rDValue (.slice A3 n3 c3) a1]) rfl ?_
    refine run ?_
    obtain rfl := Option.some.inj h
    exact endGl (rs := [.cell 4 24, .tmp 5, .cell 6 25, .tmp 7]) (vs := [.agg #[.slice none 0 0, .slice none 0 0], .slice none 0 0, .slice none 0 0, .int .i64 y7]) rfl (.cons (rv_boxS 1 rfl rfl agg24) (.cons (rv_tmp rfl) (.cons (rv_box1 0 rfl rfl one25) (.cons (rv_tmp rfl) .nil)))) rfl ((cv_nil rDCell 42 _).trans ((cv_nil rDCell 42 _).trans ((cv_nil rDValue 38 _).trans ((cv_nil rDValue 38 _).trans (cv_sel [3, 2, 1, 0] 10 rfl rfl))))) ⟨_, _, _, _, _, _, _, _, _, _, _, _, rfl, rfl⟩
  · replace h := cond_f g8 h
    refine run ?_
    refine G_rd (rd_boxS (us := [.slice A1 n1 c1, .slice A2 n2 c2]) 2 rfl rfl agg24 rfl) rfl rfl rfl ?_
    refine run ?_
    obtain ⟨y13, hy13, h⟩ := bind_elim h
    refine G_opd (op_callR (reach_Live_ok hy13) call16 rfl (mem_cons (lent_ro (i := 3) rfl rfl) (mem_cons (lent_ro (i := 4) rfl rfl) (mem_cons (lent_ro (i := 5) rfl rfl) mem_nil))) reach_Live_free) rfl rfl rfl ?_
    rintro _ _ ⟨_, ⟨A14, n14, c14, rfl, rfl⟩, rfl⟩
    refine G_opd (op_alloc zero31 rfl) rfl rfl rfl ?_
    rintro _ _ ⟨B15, rfl, rfl⟩
    refine G_opn (op_store (us := [.slice A14 n14 c14]) (cs' := [.slice A14 n14 c14]) 0 rfl rfl rfl rfl size31 rfl rfl rfl) rfl rfl ?_
    rintro _ _ rfl
    refine G_norm ([boxC B15 31 [.slice A14 n14 c14], ownC (rInt .i64) 3 (.slice A14 n14 c14) y13, boxC B6 25 [.slice none 0 0], boxC B5 24 [.slice none 0 0, .slice none 0 0], boxC B4 24 [.slice A1 n1 c1, .slice A2 n2 c2], slC rDCell (.slice A1 n1 c1) a0.Young, slC rDCell (.slice A2 n2 c2) a0.Old, slC rDValue (.slice A3 n3 c3) a1]) rfl ?_
    refine run ?_
    refine G_opd (op_makeMap (ek := ekI) (ev := evI)) rfl rfl rfl ?_
    rintro _ _ ⟨M16, rfl, rfl⟩
    refine G_opd (op_alloc zero83 rfl) rfl rfl rfl ?_
    rintro _ _ ⟨B17, rfl, rfl⟩
    refine G_opn (op_store (us := [.map (some M16)]) (cs' := [.map (some M16)]) 0 rfl rfl rfl rfl size83 rfl rfl rfl) rfl rfl ?_
    rintro _ _ rfl
    refine G_norm ([boxC B17 83 [.map (some M16)], mapC ekI evI M16 ([] : (List (Int × Int))), boxC B15 31 [.slice A14 n14 c14], ownC (rInt .i64) 3 (.slice A14 n14 c14) y13, boxC B6 25 [.slice none 0 0], boxC B5 24 [.slice none 0 0, .slice none 0 0], boxC B4 24 [.slice A1 n1 c1, .slice A2 n2 c2], slC rDCell (.slice A1 n1 c1) a0.Young, slC rDCell (.slice A2 n2 c2) a0.Old, slC rDValue (.slice A3 n3 c3) a1]) rfl ?_
    refine run ?_
    refine G_seq ?_
    refine run ?_
    obtain ⟨y18, hy18, h⟩ := bind_elim h
    refine G_opd (op_callR (major_order_ok hy18) call66 rfl (mem_cons (lent_own (i := 3) rfl) mem_nil) major_order_free) rfl rfl rfl ?_
    rintro _ _ ⟨_, ⟨B19, rfl, rfl⟩, rfl⟩
    refine G_nil ?_
    refine nx_n ?_
    refine G_sub ?_ sub_refl (cv_frzbox 0 rfl)
    refine Wq_norm ([rboxC B19 31 [.slice A14 n14 c14], boxC B17 83 [.map (some M16)], mapC ekI evI M16 ([] : (List (Int × Int))), boxC B15 31 [.slice A14 n14 c14], ownC (rInt .i64) 3 (.slice A14 n14 c14) y13, boxC B6 25 [.slice none 0 0], boxC B5 24 [.slice none 0 0, .slice none 0 0], boxC B4 24 [.slice A1 n1 c1, .slice A2 n2 c2], slC rDCell (.slice A1 n1 c1) a0.Young, slC rDCell (.slice A2 n2 c2) a0.Old, slC rDValue (.slice A3 n3 c3) a1]) rfl ?_
    refine G_sub ?_ sub_refl (cv_frz 4 rfl)
    refine Wq_norm ([rboxC B19 31 [.slice A14 n14 c14], boxC B17 83 [.map (some M16)], mapC ekI evI M16 ([] : (List (Int × Int))), boxC B15 31 [.slice A14 n14 c14], slC (rInt .i64) (.slice A14 n14 c14) y13, boxC B6 25 [.slice none 0 0], boxC B5 24 [.slice none 0 0, .slice none 0 0], boxC B4 24 [.slice A1 n1 c1, .slice A2 n2 c2], slC rDCell (.slice A1 n1 c1) a0.Young, slC rDCell (.slice A2 n2 c2) a0.Old, slC rDValue (.slice A3 n3 c3) a1]) rfl ?_
    obtain ⟨y22, hy22, h⟩ := bind_elim h
    refine G_rangeX (en := (fun x => [.int .i64 x.1, .int .i64 x.2])) (fun x st => major_Collect_b20 N a1 a0 y13 x st) (fun (st : (List (Int × Int))) (mz : Unit) => [slC rDValue (.slice A3 n3 c3) a1, slC rDCell (.slice A1 n1 c1) a0.Young, slC rDCell (.slice A2 n2 c2) a0.Old, boxC B4 24 [.slice A1 n1 c1, .slice A2 n2 c2], boxC B5 24 [.slice none 0 0, .slice none 0 0], boxC B6 25 [.slice none 0 0], slC (rInt .i64) (.slice A14 n14 c14) y13, boxC B15 31 [.slice A14 n14 c14], mapC ekI evI M16 st, boxC B17 83 [.map (some M16)]]) [rboxC B19 31 [.slice A14 n14 c14], slC (rInt .i64) (.slice A14 n14 c14) y13] (([] : (List (Int × Int)))) (()) rfl rfl call104 rfl (fun _ => rfl) (fun l G hY => (major_order_c1_ok hy22 hY).mono fun _ _ hh => hh.2) (cv_take [0, 4] [] [10, 8, 9, 7, 6, 5, 4, 3, 2, 1] 11 rfl) h ?_ ?_ ?_ ?_
    · rintro l x20 p21 je sr20 _ h
      replace h : major_Collect_b20 N a1 a0 y13 x20 p21 = some (je, sr20) := h
      simp only [envR, List.zip_cons_cons, List.zip_nil_left, List.zip_nil_right, List.reverse_cons, List.reverse_nil, List.nil_append, List.cons_append]
      refine run ?_
      refine G_rd (rd_box1 9 rfl rfl one83 rfl) rfl rfl rfl ?_
      refine run ?_
      obtain ⟨q23, h⟩ := req_elim h
      refine G_ev (ev_mul rfl rfl q23.1 q23.2) rfl rfl rfl ?_
      obtain ⟨q24, h⟩ := req_elim h
      refine G_ev (ev_add rfl rfl q24.1 q24.2) rfl rfl rfl ?_
      refine G_opn (op_mapUpdate (a := x20.2) (b := (2 * x20.1) + 2) 8 rfl rfl rfl rfl Try.underlying83 (keyOk_int Try.underlying3)) rfl rfl ?_
      rintro _ _ rfl
      refine G_norm ([slC rDValue (.slice A3 n3 c3) a1, slC rDCell (.slice A1 n1 c1) a0.Young, slC rDCell (.slice A2 n2 c2) a0.Old, boxC B4 24 [.slice A1 n1 c1, .slice A2 n2 c2], boxC B5 24 [.slice none 0 0, .slice none 0 0], boxC B6 25 [.slice none 0 0], slC (rInt .i64) (.slice A14 n14 c14) y13, boxC B15 31 [.slice A14 n14 c14], mapC ekI evI M16 (upL p21 x20.2 ((2 * x20.1) + 2)), boxC B17 83 [.map (some M16)]]) rfl ?_
      refine run ?_
      obtain ⟨rfl, rfl⟩ := Prod.mk.inj (Option.some.inj h)
      exact RK_n ((cv_sel [0, 1, 2, 3, 4, 5, 6, 7, 8, 9] 10 rfl rfl).trans (cv_pack1 () rfl))
    · rintro _ h
      refine K3_norm ([slC rDValue (.slice A3 n3 c3) a1, slC rDCell (.slice A1 n1 c1) a0.Young, slC rDCell (.slice A2 n2 c2) a0.Old, boxC B4 24 [.slice A1 n1 c1, .slice A2 n2 c2], boxC B5 24 [.slice none 0 0, .slice none 0 0], boxC B6 25 [.slice none 0 0], slC (rInt .i64) (.slice A14 n14 c14) y13, boxC B15 31 [.slice A14 n14 c14], mapC ekI evI M16 y22.2, boxC B17 83 [.map (some M16)]]) rfl ?_
      refine run ?_
      refine G_seq ?_
      refine run ?_
      obtain ⟨y25, hy25, h⟩ := bind_elim h
      refine G_opd (op_callR (major_order_ok hy25) call66 rfl (mem_cons (lent_ro (i := 6) rfl rfl) mem_nil) major_order_free) rfl rfl rfl ?_
      rintro _ _ ⟨_, ⟨B26, rfl, rfl⟩, rfl⟩
      refine G_nil ?_
      refine nx_n ?_
      refine G_sub ?_ sub_refl (cv_frzbox 0 rfl)
      refine Wq_norm ([rboxC B26 31 [.slice A14 n14 c14], slC rDValue (.slice A3 n3 c3) a1, slC rDCell (.slice A1 n1 c1) a0.Young, slC rDCell (.slice A2 n2 c2) a0.Old, boxC B4 24 [.slice A1 n1 c1, .slice A2 n2 c2], boxC B5 24 [.slice none 0 0, .slice none 0 0], boxC B6 25 [.slice none 0 0], slC (rInt .i64) (.slice A14 n14 c14) y13, boxC B15 31 [.slice A14 n14 c14], mapC ekI evI M16 y22.2, boxC B17 83 [.map (some M16)]]) rfl ?_
      obtain ⟨y30, hy30, h⟩ := bind_elim h
      refine G_rangeX (en := (fun x => [.int .i64 x.1, .int .i64 x.2])) (fun x st => major_Collect_b27 N a1 a0 y13 y22 x st) (fun (st : (List DCell) × (List DValue)) (mz : ((Option Addr × Nat × Nat) × (Option Addr × Nat × Nat))) => [slC rDValue (.slice A3 n3 c3) a1, slC rDCell (.slice A1 n1 c1) a0.Young, slC rDCell (.slice A2 n2 c2) a0.Old, boxC B4 24 [.slice A1 n1 c1, .slice A2 n2 c2], ownC rDCell 42 (.slice mz.1.1 mz.1.2.1 mz.1.2.2) st.1, boxC B5 24 [.slice none 0 0, .slice mz.1.1 mz.1.2.1 mz.1.2.2], ownC rDValue 38 (.slice mz.2.1 mz.2.2.1 mz.2.2.2) st.2, boxC B6 25 [.slice mz.2.1 mz.2.2.1 mz.2.2.2], slC (rInt .i64) (.slice A14 n14 c14) y13, boxC B15 31 [.slice A14 n14 c14], mapC ekI evI M16 y22.2, boxC B17 83 [.map (some M16)]]) [rboxC B26 31 [.slice A14 n14 c14], slC (rInt .i64) (.slice A14 n14 c14) y13] (([], [])) (((none, 0, 0), (none, 0, 0))) rfl rfl call104 rfl (fun _ => rfl) (fun l G hY => (major_order_c1_ok hy30 hY).mono fun _ _ hh => hh.2) ((cv_nil rDCell 42 _).trans ((cv_nil rDValue 38 _).trans (cv_take [2, 9] [] [3, 4, 5, 6, 1, 7, 0, 8, 9, 10, 11, 12] 13 rfl))) h ?_ ?_ ?_ ?_
      · rintro l x27 ⟨p28, p29⟩ je sr27 ⟨⟨A28, n28, c28⟩, ⟨A29, n29, c29⟩⟩ h
        replace h : major_Collect_b27 N a1 a0 y13 y22 x27 (p28, p29) = some (je, sr27) := h
        simp only [envR, List.zip_cons_cons, List.zip_nil_left, List.zip_nil_right, List.reverse_cons, List.reverse_nil, List.nil_append, List.cons_append]
        refine run ?_
        refine G_rd (rd_boxS (us := [.slice A1 n1 c1, .slice A2 n2 c2]) 3 rfl rfl agg24 rfl) rfl rfl rfl ?_
        refine run ?_
        obtain ⟨y33, hy33, h⟩ := bind_elim h
        refine G_opd (op_call (reach_At_ok hy33) call62 rfl (cv_take [1, 2] [] [0, 1, 2, 3, 4, 5, 6, 7, 8, 9, 10, 11] 12 rfl)) rfl rfl rfl ?_
        rintro _ _ ⟨_, ⟨A34, n34, c34, A35, n35, c35, rfl, rfl⟩, rfl⟩
        refine G_norm ([ownC rDValue 38 (.slice A34 n34 c34) y33.Slots, ownC rDValue 38 (.slice A35 n35 c35) y33.More, slC rDValue (.slice A3 n3 c3) a1, slC rDCell (.slice A1 n1 c1) a0.Young, slC rDCell (.slice A2 n2 c2) a0.Old, boxC B4 24 [.slice A1 n1 c1, .slice A2 n2 c2], ownC rDCell 42 (.slice A28 n28 c28) p28, boxC B5 24 [.slice none 0 0, .slice A28 n28 c28], ownC rDValue 38 (.slice A29 n29 c29) p29, boxC B6 25 [.slice A29 n29 c29], slC (rInt .i64) (.slice A14 n14 c14) y13, boxC B15 31 [.slice A14 n14 c14], mapC ekI evI M16 y22.2, boxC B17 83 [.map (some M16)]]) rfl ?_
        refine G_opd (op_alloc zero42 rfl) rfl rfl rfl ?_
        rintro _ _ ⟨B36, rfl, rfl⟩
        refine G_opn (op_store (us := [.int .i64 y33.Kind, .int .i64 y33.Shape, .int .i64 y33.Flags, .int .i64 y33.Age, .slice A34 n34 c34, .slice A35 n35 c35]) (cs' := [.int .i64 y33.Kind, .int .i64 y33.Shape, .int .i64 y33.Flags, .int .i64 y33.Age, .slice A34 n34 c34, .slice A35 n35 c35]) 0 rfl rfl rfl rfl size42 rfl rfl rfl) rfl rfl ?_
        rintro _ _ rfl
        refine G_norm ([boxC B36 42 [.int .i64 y33.Kind, .int .i64 y33.Shape, .int .i64 y33.Flags, .int .i64 y33.Age, .slice A34 n34 c34, .slice A35 n35 c35], ownC rDValue 38 (.slice A34 n34 c34) y33.Slots, ownC rDValue 38 (.slice A35 n35 c35) y33.More, slC rDValue (.slice A3 n3 c3) a1, slC rDCell (.slice A1 n1 c1) a0.Young, slC rDCell (.slice A2 n2 c2) a0.Old, boxC B4 24 [.slice A1 n1 c1, .slice A2 n2 c2], ownC rDCell 42 (.slice A28 n28 c28) p28, boxC B5 24 [.slice none 0 0, .slice A28 n28 c28], ownC rDValue 38 (.slice A29 n29 c29) p29, boxC B6 25 [.slice A29 n29 c29], slC (rInt .i64) (.slice A14 n14 c14) y13, boxC B15 31 [.slice A14 n14 c14], mapC ekI evI M16 y22.2, boxC B17 83 [.map (some M16)]]) rfl ?_
        refine run ?_
        refine G_joinF (fun s L => ∃ (p38 : (List DValue)) (p39 : Int) (p40 : Int) (p41 : Int) (p42 : Int) (p43 : (List DValue)) (p44 : (List DValue)) (A38 : Option Addr) (n38 c38 : Nat) (A43 : Option Addr) (n43 c43 : Nat) (A44 : Option Addr) (n44 c44 : Nat), major_Collect_j37 N a1 a0 p28 y13 y22 p38 p39 p40 p41 p42 p43 p44 = some (je, sr27) ∧ s = [(1, .slice A3 n3 c3), (2, .pointer (some ⟨B4, 0, none⟩)), (4, .pointer (some ⟨B5, 0, none⟩)), (5, .slice none 0 0), (6, .pointer (some ⟨B6, 0, none⟩)), (7, .int .i64 0), (9, .pointer (some ⟨B15, 0, none⟩)), (10, .pointer (some ⟨B17, 0, none⟩)), (15, .pointer (some ⟨B36, 0, none⟩))] ∧ L = [slC rDValue (.slice A3 n3 c3) a1, slC rDCell (.slice A1 n1 c1) a0.Young, slC rDCell (.slice A2 n2 c2) a0.Old, boxC B4 24 [.slice A1 n1 c1, .slice A2 n2 c2], ownC rDCell 42 (.slice A28 n28 c28) p28, boxC B5 24 [.slice none 0 0, .slice A28 n28 c28], ownC rDValue 38 (.slice A38 n38 c38) p38, boxC B6 25 [.slice A38 n38 c38], slC (rInt .i64) (.slice A14 n14 c14) y13, boxC B15 31 [.slice A14 n14 c14], mapC ekI evI M16 y22.2, boxC B17 83 [.map (some M16)], ownC rDValue 38 (.slice A43 n43 c43) p43, ownC rDValue 38 (.slice A44 n44 c44) p44, boxC B36 42 [.int .i64 p39, .int .i64 p40, .int .i64 p41, .int .i64 p42, .slice A43 n43 c43, .slice A44 n44 c44]]) ?_ ?_
        · refine run ?_
          refine G_cond rfl (fun g45 => ?_) (fun g45 => ?_)
          · replace h := cond_t g45 h
            refine G_region ?_
            refine G_rd (rd_boxS (us := [.int .i64 y33.Kind, .int .i64 y33.Shape, .int .i64 y33.Flags, .int .i64 y33.Age, .slice A34 n34 c34, .slice A35 n35 c35]) 0 rfl rfl agg42 rfl) rfl rfl rfl ?_
            refine G_rd (rd_box1 12 rfl rfl one31 rfl) rfl rfl rfl ?_
            obtain ⟨y46, hy46, h⟩ := bind_elim h
            refine G_cv (cv_frz 1 rfl) ?_
            refine G_norm ([boxC B36 42 [.int .i64 y33.Kind, .int .i64 y33.Shape, .int .i64 y33.Flags, .int .i64 y33.Age, .slice A34 n34 c34, .slice A35 n35 c35], slC rDValue (.slice A34 n34 c34) y33.Slots, ownC rDValue 38 (.slice A35 n35 c35) y33.More, slC rDValue (.slice A3 n3 c3) a1, slC rDCell (.slice A1 n1 c1) a0.Young, slC rDCell (.slice A2 n2 c2) a0.Old, boxC B4 24 [.slice A1 n1 c1, .slice A2 n2 c2], ownC rDCell 42 (.slice A28 n28 c28) p28, boxC B5 24 [.slice none 0 0, .slice A28 n28 c28], ownC rDValue 38 (.slice A29 n29 c29) p29, boxC B6 25 [.slice A29 n29 c29], slC (rInt .i64) (.slice A14 n14 c14) y13, boxC B15 31 [.slice A14 n14 c14], mapC ekI evI M16 y22.2, boxC B17 83 [.map (some M16)]]) rfl ?_
            refine G_cv (cv_frz 2 rfl) ?_
            refine G_norm ([boxC B36 42 [.int .i64 y33.Kind, .int .i64 y33.Shape, .int .i64 y33.Flags, .int .i64 y33.Age, .slice A34 n34 c34, .slice A35 n35 c35], slC rDValue (.slice A34 n34 c34) y33.Slots, slC rDValue (.slice A35 n35 c35) y33.More, slC rDValue (.slice A3 n3 c3) a1, slC rDCell (.slice A1 n1 c1) a0.Young, slC rDCell (.slice A2 n2 c2) a0.Old, boxC B4 24 [.slice A1 n1 c1, .slice A2 n2 c2], ownC rDCell 42 (.slice A28 n28 c28) p28, boxC B5 24 [.slice none 0 0, .slice A28 n28 c28], ownC rDValue 38 (.slice A29 n29 c29) p29, boxC B6 25 [.slice A29 n29 c29], slC (rInt .i64) (.slice A14 n14 c14) y13, boxC B15 31 [.slice A14 n14 c14], mapC ekI evI M16 y22.2, boxC B17 83 [.map (some M16)]]) rfl ?_
            refine G_opd (op_call (weak_Clean_ok hy46) call79 rfl (cv_take [1, 2, 11] [] [0, 1, 2, 3, 4, 5, 6, 7, 8, 9, 10, 11, 12, 13, 14] 15 rfl)) rfl rfl rfl ?_
            rintro _ _ ⟨_, ⟨A47, n47, c47, A48, n48, c48, rfl, rfl⟩, rfl⟩
            refine G_norm ([ownC rDValue 38 (.slice A47 n47 c47) y46.Slots, ownC rDValue 38 (.slice A48 n48 c48) y46.More, boxC B36 42 [.int .i64 y33.Kind, .int .i64 y33.Shape, .int .i64 y33.Flags, .int .i64 y33.Age, .slice A34 n34 c34, .slice A35 n35 c35], slC rDValue (.slice A34 n34 c34) y33.Slots, slC rDValue (.slice A35 n35 c35) y33.More, slC rDValue (.slice A3 n3 c3) a1, slC rDCell (.slice A1 n1 c1) a0.Young, slC rDCell (.slice A2 n2 c2) a0.Old, boxC B4 24 [.slice A1 n1 c1, .slice A2 n2 c2], ownC rDCell 42 (.slice A28 n28 c28) p28, boxC B5 24 [.slice none 0 0, .slice A28 n28 c28], ownC rDValue 38 (.slice A29 n29 c29) p29, boxC B6 25 [.slice A29 n29 c29], slC (rInt .i64) (.slice A14 n14 c14) y13, boxC B15 31 [.slice A14 n14 c14], mapC ekI evI M16 y22.2, boxC B17 83 [.map (some M16)]]) rfl ?_
            refine G_opn (op_store (us := [.int .i64 y46.Kind, .int .i64 y46.Shape, .int .i64 y46.Flags, .int .i64 y46.Age, .slice A47 n47 c47, .slice A48 n48 c48]) (cs' := [.int .i64 y46.Kind, .int .i64 y46.Shape, .int .i64 y46.Flags, .int .i64 y46.Age, .slice A47 n47 c47, .slice A48 n48 c48]) 2 rfl rfl rfl rfl size42 rfl rfl rfl) rfl rfl ?_
            rintro _ _ rfl
            refine G_norm ([ownC rDValue 38 (.slice A47 n47 c47) y46.Slots, ownC rDValue 38 (.slice A48 n48 c48) y46.More, boxC B36 42 [.int .i64 y46.Kind, .int .i64 y46.Shape, .int .i64 y46.Flags, .int .i64 y46.Age, .slice A47 n47 c47, .slice A48 n48 c48], slC rDValue (.slice A34 n34 c34) y33.Slots, slC rDValue (.slice A35 n35 c35) y33.More, slC rDValue (.slice A3 n3 c3) a1, slC rDCell (.slice A1 n1 c1) a0.Young, slC rDCell (.slice A2 n2 c2) a0.Old, boxC B4 24 [.slice A1 n1 c1, .slice A2 n2 c2], ownC rDCell 42 (.slice A28 n28 c28) p28, boxC B5 24 [.slice none 0 0, .slice A28 n28 c28], ownC rDValue 38 (.slice A29 n29 c29) p29, boxC B6 25 [.slice A29 n29 c29], slC (rInt .i64) (.slice A14 n14 c14) y13, boxC B15 31 [.slice A14 n14 c14], mapC ekI evI M16 y22.2, boxC B17 83 [.map (some M16)]]) rfl ?_
            refine run ?_
            exact ⟨_, _, ⟨p29, y46.Kind, y46.Shape, y46.Flags, y46.Age, y46.Slots, y46.More, A29, n29, c29, A47, n47, c47, A48, n48, c48, h, rfl, rfl⟩, sub_cons rfl (sub_cons rfl (sub_cons rfl (sub_cons rfl (sub_cons rfl (sub_cons rfl (sub_cons rfl (sub_cons rfl (sub_cons rfl sub_nil)))))))), cv_sel [5, 6, 7, 8, 9, 10, 11, 12, 13, 14, 15, 16, 0, 1, 2] 17 rfl rfl⟩
          · replace h := cond_f g45 h
            refine run ?_
            refine G_cond rfl (fun g49 => ?_) (fun g49 => ?_)
            · replace h := cond_t g49 h
              refine run ?_
              refine G_rd (rd_boxS (us := [.int .i64 y33.Kind, .int .i64 y33.Shape, .int .i64 y33.Flags, .int .i64 y33.Age, .slice A34 n34 c34, .slice A35 n35 c35]) 0 rfl rfl agg42 rfl) rfl rfl rfl ?_
              refine G_rd (rd_box1 12 rfl rfl one31 rfl) rfl rfl rfl ?_
              obtain ⟨y50, hy50, h⟩ := bind_elim h
              refine G_cv (cv_frz 1 rfl) ?_
              refine G_norm ([boxC B36 42 [.int .i64 y33.Kind, .int .i64 y33.Shape, .int .i64 y33.Flags, .int .i64 y33.Age, .slice A34 n34 c34, .slice A35 n35 c35], slC rDValue (.slice A34 n34 c34) y33.Slots, ownC rDValue 38 (.slice A35 n35 c35) y33.More, slC rDValue (.slice A3 n3 c3) a1, slC rDCell (.slice A1 n1 c1) a0.Young, slC rDCell (.slice A2 n2 c2) a0.Old, boxC B4 24 [.slice A1 n1 c1, .slice A2 n2 c2], ownC rDCell 42 (.slice A28 n28 c28) p28, boxC B5 24 [.slice none 0 0, .slice A28 n28 c28], ownC rDValue 38 (.slice A29 n29 c29) p29, boxC B6 25 [.slice A29 n29 c29], slC (rInt .i64) (.slice A14 n14 c14) y13, boxC B15 31 [.slice A14 n14 c14], mapC ekI evI M16 y22.2, boxC B17 83 [.map (some M16)]]) rfl ?_
              refine G_cv (cv_frz 2 rfl) ?_
              refine G_norm ([boxC B36 42 [.int .i64 y33.Kind, .int .i64 y33.Shape, .int .i64 y33.Flags, .int .i64 y33.Age, .slice A34 n34 c34, .slice A35 n35 c35], slC rDValue (.slice A34 n34 c34) y33.Slots, slC rDValue (.slice A35 n35 c35) y33.More, slC rDValue (.slice A3 n3 c3) a1, slC rDCell (.slice A1 n1 c1) a0.Young, slC rDCell (.slice A2 n2 c2) a0.Old, boxC B4 24 [.slice A1 n1 c1, .slice A2 n2 c2], ownC rDCell 42 (.slice A28 n28 c28) p28, boxC B5 24 [.slice none 0 0, .slice A28 n28 c28], ownC rDValue 38 (.slice A29 n29 c29) p29, boxC B6 25 [.slice A29 n29 c29], slC (rInt .i64) (.slice A14 n14 c14) y13, boxC B15 31 [.slice A14 n14 c14], mapC ekI evI M16 y22.2, boxC B17 83 [.map (some M16)]]) rfl ?_
              refine G_opd (op_call (finreg_Clean_ok hy50) call80 rfl (cv_take [1, 2, 11] [] [0, 1, 2, 3, 4, 5, 6, 7, 8, 9, 10, 11, 12, 13, 14] 15 rfl)) rfl rfl rfl ?_
              rintro _ _ ⟨_, ⟨A51, n51, c51, A52, n52, c52, A53, n53, c53, rfl, rfl⟩, rfl⟩
              refine G_norm ([ownC rDValue 38 (.slice A51 n51 c51) y50.1.Slots, ownC rDValue 38 (.slice A52 n52 c52) y50.1.More, ownC rDValue 38 (.slice A53 n53 c53) y50.2, boxC B36 42 [.int .i64 y33.Kind, .int .i64 y33.Shape, .int .i64 y33.Flags, .int .i64 y33.Age, .slice A34 n34 c34, .slice A35 n35 c35], slC rDValue (.slice A34 n34 c34) y33.Slots, slC rDValue (.slice A35 n35 c35) y33.More, slC rDValue (.slice A3 n3 c3) a1, slC rDCell (.slice A1 n1 c1) a0.Young, slC rDCell (.slice A2 n2 c2) a0.Old, boxC B4 24 [.slice A1 n1 c1, .slice A2 n2 c2], ownC rDCell 42 (.slice A28 n28 c28) p28, boxC B5 24 [.slice none 0 0, .slice A28 n28 c28], ownC rDValue 38 (.slice A29 n29 c29) p29, boxC B6 25 [.slice A29 n29 c29], slC (rInt .i64) (.slice A14 n14 c14) y13, boxC B15 31 [.slice A14 n14 c14], mapC ekI evI M16 y22.2, boxC B17 83 [.map (some M16)]]) rfl ?_
              refine run ?_
              refine G_opn (op_store (us := [.int .i64 y50.1.Kind, .int .i64 y50.1.Shape, .int .i64 y50.1.Flags, .int .i64 y50.1.Age, .slice A51 n51 c51, .slice A52 n52 c52]) (cs' := [.int .i64 y50.1.Kind, .int .i64 y50.1.Shape, .int .i64 y50.1.Flags, .int .i64 y50.1.Age, .slice A51 n51 c51, .slice A52 n52 c52]) 3 rfl rfl rfl rfl size42 rfl rfl rfl) rfl rfl ?_
              rintro _ _ rfl
              refine G_norm ([ownC rDValue 38 (.slice A51 n51 c51) y50.1.Slots, ownC rDValue 38 (.slice A52 n52 c52) y50.1.More, ownC rDValue 38 (.slice A53 n53 c53) y50.2, boxC B36 42 [.int .i64 y50.1.Kind, .int .i64 y50.1.Shape, .int .i64 y50.1.Flags, .int .i64 y50.1.Age, .slice A51 n51 c51, .slice A52 n52 c52], slC rDValue (.slice A34 n34 c34) y33.Slots, slC rDValue (.slice A35 n35 c35) y33.More, slC rDValue (.slice A3 n3 c3) a1, slC rDCell (.slice A1 n1 c1) a0.Young, slC rDCell (.slice A2 n2 c2) a0.Old, boxC B4 24 [.slice A1 n1 c1, .slice A2 n2 c2], ownC rDCell 42 (.slice A28 n28 c28) p28, boxC B5 24 [.slice none 0 0, .slice A28 n28 c28], ownC rDValue 38 (.slice A29 n29 c29) p29, boxC B6 25 [.slice A29 n29 c29], slC (rInt .i64) (.slice A14 n14 c14) y13, boxC B15 31 [.slice A14 n14 c14], mapC ekI evI M16 y22.2, boxC B17 83 [.map (some M16)]]) rfl ?_
              refine run ?_
              refine G_rd (rd_box1 13 rfl rfl one25 rfl) rfl rfl rfl ?_
              refine run ?_
              obtain ⟨q54, h⟩ := req_elim h
              refine G_opd (op_append 12 2 rfl rfl els_own rfl rfl Try.underlying25 zb38 rfl rfl q54) rfl rfl rfl ?_
              rintro _ _ ⟨A55, n55, c55, rfl, rfl⟩
              refine G_norm ([ownC rDValue 38 (.slice A51 n51 c51) y50.1.Slots, ownC rDValue 38 (.slice A52 n52 c52) y50.1.More, ownC rDValue 38 (.slice A53 n53 c53) y50.2, boxC B36 42 [.int .i64 y50.1.Kind, .int .i64 y50.1.Shape, .int .i64 y50.1.Flags, .int .i64 y50.1.Age, .slice A51 n51 c51, .slice A52 n52 c52], slC rDValue (.slice A34 n34 c34) y33.Slots, slC rDValue (.slice A35 n35 c35) y33.More, slC rDValue (.slice A3 n3 c3) a1, slC rDCell (.slice A1 n1 c1) a0.Young, slC rDCell (.slice A2 n2 c2) a0.Old, boxC B4 24 [.slice A1 n1 c1, .slice A2 n2 c2], ownC rDCell 42 (.slice A28 n28 c28) p28, boxC B5 24 [.slice none 0 0, .slice A28 n28 c28], ownC rDValue 38 (.slice A55 n55 c55) (p29 ++ y50.2), boxC B6 25 [.slice A29 n29 c29], slC (rInt .i64) (.slice A14 n14 c14) y13, boxC B15 31 [.slice A14 n14 c14], mapC ekI evI M16 y22.2, boxC B17 83 [.map (some M16)]]) rfl ?_
              refine G_opn (op_store (us := [.slice A55 n55 c55]) (cs' := [.slice A55 n55 c55]) 13 rfl rfl rfl rfl size25 rfl rfl rfl) rfl rfl ?_
              rintro _ _ rfl
              refine G_norm ([ownC rDValue 38 (.slice A51 n51 c51) y50.1.Slots, ownC rDValue 38 (.slice A52 n52 c52) y50.1.More, ownC rDValue 38 (.slice A53 n53 c53) y50.2, boxC B36 42 [.int .i64 y50.1.Kind, .int .i64 y50.1.Shape, .int .i64 y50.1.Flags, .int .i64 y50.1.Age, .slice A51 n51 c51, .slice A52 n52 c52], slC rDValue (.slice A34 n34 c34) y33.Slots, slC rDValue (.slice A35 n35 c35) y33.More, slC rDValue (.slice A3 n3 c3) a1, slC rDCell (.slice A1 n1 c1) a0.Young, slC rDCell (.slice A2 n2 c2) a0.Old, boxC B4 24 [.slice A1 n1 c1, .slice A2 n2 c2], ownC rDCell 42 (.slice A28 n28 c28) p28, boxC B5 24 [.slice none 0 0, .slice A28 n28 c28], ownC rDValue 38 (.slice A55 n55 c55) (p29 ++ y50.2), boxC B6 25 [.slice A55 n55 c55], slC (rInt .i64) (.slice A14 n14 c14) y13, boxC B15 31 [.slice A14 n14 c14], mapC ekI evI M16 y22.2, boxC B17 83 [.map (some M16)]]) rfl ?_
              refine run ?_
              exact ⟨_, _, ⟨p29 ++ y50.2, y50.1.Kind, y50.1.Shape, y50.1.Flags, y50.1.Age, y50.1.Slots, y50.1.More, A55, n55, c55, A51, n51, c51, A52, n52, c52, h, rfl, rfl⟩, sub_cons rfl (sub_cons rfl (sub_cons rfl (sub_cons rfl (sub_cons rfl (sub_cons rfl (sub_cons rfl (sub_cons rfl (sub_cons rfl sub_nil)))))))), cv_sel [6, 7, 8, 9, 10, 11, 12, 13, 14, 15, 16, 17, 0, 1, 3] 18 rfl rfl⟩
            · replace h := cond_f g49 h
              refine run ?_
              exact ⟨_, _, ⟨p29, y33.Kind, y33.Shape, y33.Flags, y33.Age, y33.Slots, y33.More, A29, n29, c29, A34, n34, c34, A35, n35, c35, h, rfl, rfl⟩, sub_cons rfl (sub_cons rfl (sub_cons rfl (sub_cons rfl (sub_cons rfl (sub_cons rfl (sub_cons rfl (sub_cons rfl (sub_cons rfl sub_nil)))))))), cv_sel [3, 4, 5, 6, 7, 8, 9, 10, 11, 12, 13, 14, 1, 2, 0] 15 rfl rfl⟩
        · rintro _ _ ⟨p38, p39, p40, p41, p42, p43, p44, A38, n38, c38, A43, n43, c43, A44, n44, c44, h, rfl, rfl⟩
          refine G_seq ?_
          obtain ⟨y56, hy56, h⟩ := bind_elim h
          obtain ⟨y59, hy59, h⟩ := bind_elim h
          refine G_sub (t := [(1, .slice A3 n3 c3), (2, .pointer (some ⟨B4, 0, none⟩)), (4, .pointer (some ⟨B5, 0, none⟩)), (5, .slice none 0 0), (6, .pointer (some ⟨B6, 0, none⟩)), (7, .int .i64 0), (9, .pointer (some ⟨B15, 0, none⟩)), (10, .pointer (some ⟨B17, 0, none⟩)), (15, .pointer (some ⟨B36, 0, none⟩))]) ?_ subT (cv_refl _)
          refine G_monoX (by kernel_rfl) 9 [] [3, 7, 8] [62, 63, 64, 65, 66, 67, 68, 69, 70] [[], [0], [], [1, 2], [], [4], [], [5, 6], []] [aV (.pointer (some ⟨B36, 4, none⟩)),
 aV (.slice A43 n43 c43),
 aV (.map (some M16)),
 aX3 (fun (A58 : Option Addr) (n58 c58 : Nat) => .slice A58 n58 c58) (fun A58 n58 c58 => [ownC rDValue 38 (.slice A58 n58 c58) y56]),
 aV (.pointer (some ⟨B36, 5, none⟩)),
 aV (.slice A44 n44 c44),
 aV (.map (some M16)),
 aX3 (fun (A61 : Option Addr) (n61 c61 : Nat) => .slice A61 n61 c61) (fun A61 n61 c61 => [ownC rDValue 38 (.slice A61 n61 c61) y59]),
 aV (.pointer (some ⟨B36, 4, none⟩))] [] (cv_refl _) (qB_nil) (by kernel_rfl) rfl rfl ?_ ?_ ?_
          · exact qs_nil
          · refine steps_cons rfl ?_ ?_
            · exact X_ev (ev_fa rfl fa_42_4) rfl (cvpV rfl (cv_refl _))
            refine steps_cons rfl ?_ ?_
            · refine X_op (op_callR (major_moved_ok hy59) call103 rfl (mem_cons (lent_own (i := 13) rfl) (mem_cons (lent_map (i := 10) rfl) mem_nil)) major_moved_free) rfl ?_
              rintro _ _ ⟨_, ⟨A60, n60, c60, rfl, rfl⟩, rfl⟩
              exact cvp3 A60 n60 c60 (cv_refl _)
            refine steps_cons rfl ?_ ?_
            · exact X_rd (rd_box1 11 rfl rfl one83 rfl) rfl (cvpV rfl (cv_refl _))
            refine steps_cons rfl ?_ ?_
            · exact X_rd (rd_box1 14 rfl rfl one25 rfl) rfl (cvpV rfl (cv_refl _))
            refine steps_cons rfl ?_ ?_
            · exact X_ev (ev_fa rfl fa_42_5) rfl (cvpV rfl (cv_refl _))
            refine steps_cons rfl ?_ ?_
            · refine X_op (op_callR (major_moved_ok hy56) call103 rfl (mem_cons (lent_own (i := 12) rfl) (mem_cons (lent_map (i := 10) rfl) mem_nil)) major_moved_free) rfl ?_
              rintro _ _ ⟨_, ⟨A57, n57, c57, rfl, rfl⟩, rfl⟩
              exact cvp3 A57 n57 c57 (cv_refl _)
            refine steps_cons rfl ?_ ?_
            · exact X_rd (rd_box1 11 rfl rfl one83 rfl) rfl (cvpV rfl (cv_refl _))
            refine steps_cons rfl ?_ ?_
            · exact X_rd (rd_box1 14 rfl rfl one25 rfl) rfl (cvpV rfl (cv_refl _))
            refine steps_cons rfl ?_ ?_
            · exact X_ev (ev_fa rfl fa_42_4) rfl (cvpV rfl (cv_refl _))
            exact steps_nil
          · intro A58 n58 c58 A61 n61 c61
            refine N_sub (t := [(65, .slice A58 n58 c58), (69, .slice A61 n61 c61), (70, .pointer (some ⟨B36, 4, none⟩)), (1, .slice A3 n3 c3), (2, .pointer (some ⟨B4, 0, none⟩)), (4, .pointer (some ⟨B5, 0, none⟩)), (5, .slice none 0 0), (6, .pointer (some ⟨B6, 0, none⟩)), (7, .int .i64 0), (9, .pointer (some ⟨B15, 0, none⟩)), (10, .pointer (some ⟨B17, 0, none⟩)), (15, .pointer (some ⟨B36, 0, none⟩))]) (L' := [ownC rDValue 38 (.slice A58 n58 c58) y56, ownC rDValue 38 (.slice A61 n61 c61) y59, slC rDValue (.slice A3 n3 c3) a1, slC rDCell (.slice A1 n1 c1) a0.Young, slC rDCell (.slice A2 n2 c2) a0.Old, boxC B4 24 [.slice A1 n1 c1, .slice A2 n2 c2], ownC rDCell 42 (.slice A28 n28 c28) p28, boxC B5 24 [.slice none 0 0, .slice A28 n28 c28], ownC rDValue 38 (.slice A38 n38 c38) p38, boxC B6 25 [.slice A38 n38 c38], slC (rInt .i64) (.slice A14 n14 c14) y13, boxC B15 31 [.slice A14 n14 c14], mapC ekI evI M16 y22.2, boxC B17 83 [.map (some M16)], ownC rDValue 38 (.slice A43 n43 c43) p43, ownC rDValue 38 (.slice A44 n44 c44) p44, boxC B36 42 [.int .i64 p39, .int .i64 p40, .int .i64 p41, .int .i64 p42, .slice A43 n43 c43, .slice A44 n44 c44]]) ?_ subT (cv_refl _)
            refine N_opn 9 rfl (by kernel_rfl) (op_store (us := [.slice A58 n58 c58]) (cs' := [.int .i64 p39, .int .i64 p40, .int .i64 p41, .int .i64 p42, .slice A58 n58 c58, .slice A44 n44 c44]) 16 rfl rfl rfl rfl size25 rfl rfl rfl) rfl rfl ?_
            rintro _ _ rfl
            refine N_norm ([ownC rDValue 38 (.slice A58 n58 c58) y56, ownC rDValue 38 (.slice A61 n61 c61) y59, slC rDValue (.slice A3 n3 c3) a1, slC rDCell (.slice A1 n1 c1) a0.Young, slC rDCell (.slice A2 n2 c2) a0.Old, boxC B4 24 [.slice A1 n1 c1, .slice A2 n2 c2], ownC rDCell 42 (.slice A28 n28 c28) p28, boxC B5 24 [.slice none 0 0, .slice A28 n28 c28], ownC rDValue 38 (.slice A38 n38 c38) p38, boxC B6 25 [.slice A38 n38 c38], slC (rInt .i64) (.slice A14 n14 c14) y13, boxC B15 31 [.slice A14 n14 c14], mapC ekI evI M16 y22.2, boxC B17 83 [.map (some M16)], ownC rDValue 38 (.slice A43 n43 c43) p43, ownC rDValue 38 (.slice A44 n44 c44) p44, boxC B36 42 [.int .i64 p39, .int .i64 p40, .int .i64 p41, .int .i64 p42, .slice A58 n58 c58, .slice A44 n44 c44]]) rfl ?_
            refine N_ev 10 rfl (by kernel_rfl) (ev_fa rfl fa_42_5) rfl rfl rfl ?_
            refine N_opn 11 rfl (by kernel_rfl) (op_store (us := [.slice A61 n61 c61]) (cs' := [.int .i64 p39, .int .i64 p40, .int .i64 p41, .int .i64 p42, .slice A58 n58 c58, .slice A61 n61 c61]) 16 rfl rfl rfl rfl size25 rfl rfl rfl) rfl rfl ?_
            rintro _ _ rfl
            refine N_norm ([ownC rDValue 38 (.slice A58 n58 c58) y56, ownC rDValue 38 (.slice A61 n61 c61) y59, slC rDValue (.slice A3 n3 c3) a1, slC rDCell (.slice A1 n1 c1) a0.Young, slC rDCell (.slice A2 n2 c2) a0.Old, boxC B4 24 [.slice A1 n1 c1, .slice A2 n2 c2], ownC rDCell 42 (.slice A28 n28 c28) p28, boxC B5 24 [.slice none 0 0, .slice A28 n28 c28], ownC rDValue 38 (.slice A38 n38 c38) p38, boxC B6 25 [.slice A38 n38 c38], slC (rInt .i64) (.slice A14 n14 c14) y13, boxC B15 31 [.slice A14 n14 c14], mapC ekI evI M16 y22.2, boxC B17 83 [.map (some M16)], ownC rDValue 38 (.slice A43 n43 c43) p43, ownC rDValue 38 (.slice A44 n44 c44) p44, boxC B36 42 [.int .i64 p39, .int .i64 p40, .int .i64 p41, .int .i64 p42, .slice A58 n58 c58, .slice A61 n61 c61]]) rfl ?_
            refine N_done (by kernel_rfl) ?_
            refine run ?_
            refine G_rd (rd_boxS (us := [.int .i64 p39, .int .i64 p40, .int .i64 p41, .int .i64 p42, .slice A58 n58 c58, .slice A61 n61 c61]) 16 rfl rfl agg42 rfl) rfl rfl rfl ?_
            refine G_cv (cv_frz 0 rfl) ?_
            refine G_norm ([slC rDValue (.slice A58 n58 c58) y56, ownC rDValue 38 (.slice A61 n61 c61) y59, slC rDValue (.slice A3 n3 c3) a1, slC rDCell (.slice A1 n1 c1) a0.Young, slC rDCell (.slice A2 n2 c2) a0.Old, boxC B4 24 [.slice A1 n1 c1, .slice A2 n2 c2], ownC rDCell 42 (.slice A28 n28 c28) p28, boxC B5 24 [.slice none 0 0, .slice A28 n28 c28], ownC rDValue 38 (.slice A38 n38 c38) p38, boxC B6 25 [.slice A38 n38 c38], slC (rInt .i64) (.slice A14 n14 c14) y13, boxC B15 31 [.slice A14 n14 c14], mapC ekI evI M16 y22.2, boxC B17 83 [.map (some M16)], ownC rDValue 38 (.slice A43 n43 c43) p43, ownC rDValue 38 (.slice A44 n44 c44) p44, boxC B36 42 [.int .i64 p39, .int .i64 p40, .int .i64 p41, .int .i64 p42, .slice A58 n58 c58, .slice A61 n61 c61]]) rfl ?_
            refine G_cv (cv_frz 1 rfl) ?_
            refine G_norm ([slC rDValue (.slice A58 n58 c58) y56, slC rDValue (.slice A61 n61 c61) y59, slC rDValue (.slice A3 n3 c3) a1, slC rDCell (.slice A1 n1 c1) a0.Young, slC rDCell (.slice A2 n2 c2) a0.Old, boxC B4 24 [.slice A1 n1 c1, .slice A2 n2 c2], ownC rDCell 42 (.slice A28 n28 c28) p28, boxC B5 24 [.slice none 0 0, .slice A28 n28 c28], ownC rDValue 38 (.slice A38 n38 c38) p38, boxC B6 25 [.slice A38 n38 c38], slC (rInt .i64) (.slice A14 n14 c14) y13, boxC B15 31 [.slice A14 n14 c14], mapC ekI evI M16 y22.2, boxC B17 83 [.map (some M16)], ownC rDValue 38 (.slice A43 n43 c43) p43, ownC rDValue 38 (.slice A44 n44 c44) p44, boxC B36 42 [.int .i64 p39, .int .i64 p40, .int .i64 p41, .int .i64 p42, .slice A58 n58 c58, .slice A61 n61 c61]]) rfl ?_
            refine G_opd (op_bslice (R := rDCell) (vss := [[.int .i64 p39, .int .i64 p40, .int .i64 p41, .int .i64 p42, .slice A58 n58 c58, .slice A61 n61 c61]]) (xs := [(⟨p39, p40, p41, p42, y56, y59⟩ : DCell)]) rfl (bsl_22_1 _ _ _ _ _ _ _ _ _ _) rfl rfl (fun _ _ hr => .cons (⟨_, _, _, _, _, _, rfl, hr 0 _ rfl rfl, hr 1 _ rfl rfl⟩) All2.nil)) rfl rfl rfl ?_
            rintro _ _ ⟨A62, n62, c62, rfl, rfl⟩
            obtain ⟨q63, h⟩ := req_elim h
            refine G_opd (op_append 7 0 rfl rfl els_own rfl rfl Try.underlying22 zb42 rfl rfl q63) rfl rfl rfl ?_
            rintro _ _ ⟨A64, n64, c64, rfl, rfl⟩
            refine G_norm ([ownC rDCell 42 (.slice A62 n62 c62) ([(⟨p39, p40, p41, p42, y56, y59⟩ : DCell)] : List DCell), slC rDValue (.slice A58 n58 c58) y56, slC rDValue (.slice A61 n61 c61) y59, slC rDValue (.slice A3 n3 c3) a1, slC rDCell (.slice A1 n1 c1) a0.Young, slC rDCell (.slice A2 n2 c2) a0.Old, boxC B4 24 [.slice A1 n1 c1, .slice A2 n2 c2], ownC rDCell 42 (.slice A64 n64 c64) (p28 ++ ([(⟨p39, p40, p41, p42, y56, y59⟩ : DCell)] : List DCell)), boxC B5 24 [.slice none 0 0, .slice A28 n28 c28], ownC rDValue 38 (.slice A38 n38 c38) p38, boxC B6 25 [.slice A38 n38 c38], slC (rInt .i64) (.slice A14 n14 c14) y13, boxC B15 31 [.slice A14 n14 c14], mapC ekI evI M16 y22.2, boxC B17 83 [.map (some M16)], ownC rDValue 38 (.slice A43 n43 c43) p43, ownC rDValue 38 (.slice A44 n44 c44) p44, boxC B36 42 [.int .i64 p39, .int .i64 p40, .int .i64 p41, .int .i64 p42, .slice A58 n58 c58, .slice A61 n61 c61]]) rfl ?_
            refine run ?_
            refine G_opn (op_store (us := [.slice A64 n64 c64]) (cs' := [.slice none 0 0, .slice A64 n64 c64]) 8 rfl rfl rfl rfl size22 rfl rfl rfl) rfl rfl ?_
            rintro _ _ rfl
            refine G_norm ([ownC rDCell 42 (.slice A62 n62 c62) ([(⟨p39, p40, p41, p42, y56, y59⟩ : DCell)] : List DCell), slC rDValue (.slice A58 n58 c58) y56, slC rDValue (.slice A61 n61 c61) y59, slC rDValue (.slice A3 n3 c3) a1, slC rDCell (.slice A1 n1 c1) a0.Young, slC rDCell (.slice A2 n2 c2) a0.Old, boxC B4 24 [.slice A1 n1 c1, .slice A2 n2 c2], ownC rDCell 42 (.slice A64 n64 c64) (p28 ++ ([(⟨p39, p40, p41, p42, y56, y59⟩ : DCell)] : List DCell)), boxC B5 24 [.slice none 0 0, .slice A64 n64 c64], ownC rDValue 38 (.slice A38 n38 c38) p38, boxC B6 25 [.slice A38 n38 c38], slC (rInt .i64) (.slice A14 n14 c14) y13, boxC B15 31 [.slice A14 n14 c14], mapC ekI evI M16 y22.2, boxC B17 83 [.map (some M16)], ownC rDValue 38 (.slice A43 n43 c43) p43, ownC rDValue 38 (.slice A44 n44 c44) p44, boxC B36 42 [.int .i64 p39, .int .i64 p40, .int .i64 p41, .int .i64 p42, .slice A58 n58 c58, .slice A61 n61 c61]]) rfl ?_
            refine run ?_
            obtain ⟨rfl, rfl⟩ := Prod.mk.inj (Option.some.inj h)
            exact RK_n ((cv_sel [3, 4, 5, 6, 7, 8, 9, 10, 11, 12, 13, 14] 18 rfl rfl).trans (cv_pack1 ((A64, n64, c64), (A38, n38, c38)) rfl))
      · rintro ⟨⟨A28, n28, c28⟩, ⟨A29, n29, c29⟩⟩ h
        refine K3_norm ([slC rDValue (.slice A3 n3 c3) a1, slC rDCell (.slice A1 n1 c1) a0.Young, slC rDCell (.slice A2 n2 c2) a0.Old, boxC B4 24 [.slice A1 n1 c1, .slice A2 n2 c2], ownC rDCell 42 (.slice A28 n28 c28) y30.2.1, boxC B5 24 [.slice none 0 0, .slice A28 n28 c28], ownC rDValue 38 (.slice A29 n29 c29) y30.2.2, boxC B6 25 [.slice A29 n29 c29], slC (rInt .i64) (.slice A14 n14 c14) y13, boxC B15 31 [.slice A14 n14 c14], mapC ekI evI M16 y22.2, boxC B17 83 [.map (some M16)]]) rfl ?_
        refine run ?_
        refine G_seq ?_
        obtain ⟨y65, hy65, h⟩ := bind_elim h
        obtain ⟨y68, hy68, h⟩ := bind_elim h
        refine G_sub (t := [(1, .slice A3 n3 c3), (4, .pointer (some ⟨B5, 0, none⟩)), (5, .slice none 0 0), (6, .pointer (some ⟨B6, 0, none⟩)), (7, .int .i64 0), (10, .pointer (some ⟨B17, 0, none⟩))]) ?_ subT (cv_refl _)
        refine G_monoX (by kernel_rfl) 7 [] [0, 3, 6] [78, 79, 80, 81, 82, 83, 84] [[], [], [], [1, 2], [], [], [4, 5]] [aV (.agg #[.slice none 0 0, .slice A28 n28 c28]),
 aV (.slice A3 n3 c3),
 aV (.map (some M16)),
 aX3 (fun (A67 : Option Addr) (n67 c67 : Nat) => .slice A67 n67 c67) (fun A67 n67 c67 => [ownC rDValue 38 (.slice A67 n67 c67) y65]),
 aV (.slice A29 n29 c29),
 aV (.map (some M16)),
 aX3 (fun (A70 : Option Addr) (n70 c70 : Nat) => .slice A70 n70 c70) (fun A70 n70 c70 => [ownC rDValue 38 (.slice A70 n70 c70) y68])] [] (cv_refl _) (qB_nil) (by kernel_rfl) rfl rfl ?_ ?_ ?_
        · exact qs_nil
        · refine steps_cons rfl ?_ ?_
          · refine X_op (op_callR (major_moved_ok hy68) call103 rfl (mem_cons (lent_own (i := 6) rfl) (mem_cons (lent_map (i := 10) rfl) mem_nil)) major_moved_free) rfl ?_
            rintro _ _ ⟨_, ⟨A69, n69, c69, rfl, rfl⟩, rfl⟩
            exact cvp3 A69 n69 c69 (cv_refl _)
          refine steps_cons rfl ?_ ?_
          · exact X_rd (rd_box1 11 rfl rfl one83 rfl) rfl (cvpV rfl (cv_refl _))
          refine steps_cons rfl ?_ ?_
          · exact X_rd (rd_box1 7 rfl rfl one25 rfl) rfl (cvpV rfl (cv_refl _))
          refine steps_cons rfl ?_ ?_
          · refine X_op (op_callR (major_moved_ok hy65) call103 rfl (mem_cons (lent_ro (i := 0) rfl rfl) (mem_cons (lent_map (i := 10) rfl) mem_nil)) major_moved_free) rfl ?_
            rintro _ _ ⟨_, ⟨A66, n66, c66, rfl, rfl⟩, rfl⟩
            exact cvp3 A66 n66 c66 (cv_refl _)
          refine steps_cons rfl ?_ ?_
          · exact X_rd (rd_box1 11 rfl rfl one83 rfl) rfl (cvpV rfl (cv_refl _))
          refine steps_cons rfl ?_ ?_
          · exact X_ev (ev_move rfl) rfl (cvpV rfl (cv_refl _))
          refine steps_cons rfl ?_ ?_
          · exact X_rd (rd_boxS (us := [.slice none 0 0, .slice A28 n28 c28]) 5 rfl rfl agg24 rfl) rfl (cvpV rfl (cv_refl _))
          exact steps_nil
        · intro A67 n67 c67 A70 n70 c70
          refine N_sub (t := [(78, .agg #[.slice none 0 0, .slice A28 n28 c28]), (81, .slice A67 n67 c67), (84, .slice A70 n70 c70), (1, .slice A3 n3 c3), (4, .pointer (some ⟨B5, 0, none⟩)), (5, .slice none 0 0), (6, .pointer (some ⟨B6, 0, none⟩)), (7, .int .i64 0), (10, .pointer (some ⟨B17, 0, none⟩))]) (L' := [ownC rDValue 38 (.slice A67 n67 c67) y65, ownC rDValue 38 (.slice A70 n70 c70) y68, slC rDValue (.slice A3 n3 c3) a1, slC rDCell (.slice A1 n1 c1) a0.Young, slC rDCell (.slice A2 n2 c2) a0.Old, boxC B4 24 [.slice A1 n1 c1, .slice A2 n2 c2], ownC rDCell 42 (.slice A28 n28 c28) y30.2.1, boxC B5 24 [.slice none 0 0, .slice A28 n28 c28], ownC rDValue 38 (.slice A29 n29 c29) y30.2.2, boxC B6 25 [.slice A29 n29 c29], slC (rInt .i64) (.slice A14 n14 c14) y13, boxC B15 31 [.slice A14 n14 c14], mapC ekI evI M16 y22.2, boxC B17 83 [.map (some M16)]]) ?_ subT (cv_refl _)
          refine N_opn 7 rfl (by kernel_rfl) (op_store (us := [.slice none 0 0, .slice A28 n28 c28]) (cs' := [.slice none 0 0, .slice A28 n28 c28]) 7 rfl rfl rfl rfl size24 rfl rfl rfl) rfl rfl ?_
          rintro _ _ rfl
          refine N_norm ([ownC rDValue 38 (.slice A67 n67 c67) y65, ownC rDValue 38 (.slice A70 n70 c70) y68, slC rDValue (.slice A3 n3 c3) a1, slC rDCell (.slice A1 n1 c1) a0.Young, slC rDCell (.slice A2 n2 c2) a0.Old, boxC B4 24 [.slice A1 n1 c1, .slice A2 n2 c2], ownC rDCell 42 (.slice A28 n28 c28) y30.2.1, boxC B5 24 [.slice none 0 0, .slice A28 n28 c28], ownC rDValue 38 (.slice A29 n29 c29) y30.2.2, boxC B6 25 [.slice A29 n29 c29], slC (rInt .i64) (.slice A14 n14 c14) y13, boxC B15 31 [.slice A14 n14 c14], mapC ekI evI M16 y22.2, boxC B17 83 [.map (some M16)]]) rfl ?_
          refine N_ev 8 rfl (by kernel_rfl) (ev_assign rfl) rfl rfl rfl ?_
          refine N_opn 9 rfl (by kernel_rfl) (op_store (us := [.slice A70 n70 c70]) (cs' := [.slice A70 n70 c70]) 9 rfl rfl rfl rfl size25 rfl rfl rfl) rfl rfl ?_
          rintro _ _ rfl
          refine N_norm ([ownC rDValue 38 (.slice A67 n67 c67) y65, ownC rDValue 38 (.slice A70 n70 c70) y68, slC rDValue (.slice A3 n3 c3) a1, slC rDCell (.slice A1 n1 c1) a0.Young, slC rDCell (.slice A2 n2 c2) a0.Old, boxC B4 24 [.slice A1 n1 c1, .slice A2 n2 c2], ownC rDCell 42 (.slice A28 n28 c28) y30.2.1, boxC B5 24 [.slice none 0 0, .slice A28 n28 c28], ownC rDValue 38 (.slice A29 n29 c29) y30.2.2, boxC B6 25 [.slice A70 n70 c70], slC (rInt .i64) (.slice A14 n14 c14) y13, boxC B15 31 [.slice A14 n14 c14], mapC ekI evI M16 y22.2, boxC B17 83 [.map (some M16)]]) rfl ?_
          refine N_ev 10 rfl (by kernel_rfl) (ev_assign rfl) rfl rfl rfl ?_
          refine N_done (by kernel_rfl) ?_
          refine run ?_
          obtain rfl := Option.some.inj h
          exact endGl (rs := [.cell 4 24, .tmp 5, .cell 6 25, .tmp 7]) (vs := [.agg #[.slice none 0 0, .slice A28 n28 c28], .slice A67 n67 c67, .slice A70 n70 c70, .int .i64 0]) rfl (.cons (rv_boxS 7 rfl rfl agg24) (.cons (rv_tmp rfl) (.cons (rv_box1 9 rfl rfl one25) (.cons (rv_tmp rfl) .nil)))) rfl ((cv_nil rDCell 42 _).trans (cv_sel [0, 7, 1, 2] 15 rfl rfl)) ⟨_, _, _, _, _, _, _, _, _, _, _, _, rfl, rfl⟩
      · rintro ⟨⟨A28, n28, c28⟩, ⟨A29, n29, c29⟩⟩ h
        exact none_some h
      · rintro i ⟨⟨A28, n28, c28⟩, ⟨A29, n29, c29⟩⟩ h
        exact none_some h
    · rintro _ h
      exact none_some h
    · rintro i _ h
      exact none_some h
def pantomimeref15_SameValues_j4 (N : Nat) : Option Bool :=
  some true
def pantomimeref15_SameValues_l5 (N : Nat) (a0 : (List DValue)) (a1 : (List DValue)) : Nat → Int → Option Bool
  | 0, _ => none
  | m5 + 1, p6 => bif decide (p6 < (a0.length : Int)) then ((getE a0 p6).bind fun x8 => (getE a1 p6).bind fun x9 => bif !decide (x8 = x9) then (some false) else (req (in64 (p6 + 1)) ((pantomimeref15_SameValues_l5 N a0 a1 m5) (p6 + 1)))) else (pantomimeref15_SameValues_j4 N)
theorem pantomimeref15_SameValues_l5_s {N m5 : Nat} {a0 : (List DValue)} {a1 : (List DValue)} {p6 : Int} : pantomimeref15_SameValues_l5 N a0 a1 (m5 + 1) p6 = bif decide (p6 < (a0.length : Int)) then ((getE a0 p6).bind fun x8 => (getE a1 p6).bind fun x9 => bif !decide (x8 = x9) then (some false) else (req (in64 (p6 + 1)) ((pantomimeref15_SameValues_l5 N a0 a1 m5) (p6 + 1)))) else (pantomimeref15_SameValues_j4 N) := rfl
def pantomimeref15_SameValues_O (N : Nat) (a0 : (List DValue)) (a1 : (List DValue)) : Option Bool :=
  bif !decide ((a0.length : Int) = (a1.length : Int)) then (some false) else (pantomimeref15_SameValues_l5 N a0 a1 N 0)
theorem pantomimeref15_SameValues_ok {N : Nat} {a0 : (List DValue)} {a1 : (List DValue)} {r : Bool} (h : pantomimeref15_SameValues_O N a0 a1 = some r) {A1 : Option Addr} {n1 c1 : Nat} {A2 : Option Addr} {n2 c2 : Nat} : Okc Try.prog 13 [.slice A1 n1 c1, .slice A2 n2 c2] ([slC rDValue (.slice A1 n1 c1) a0, slC rDValue (.slice A2 n2 c2) a1]) (fun (u : Value) (post : List Chunk) => u = .bool r ∧ post = []) := by
  refine ok_E Try.func13 rfl rfl ?_
  simp only [envOf]
  refine run ?_
  refine G_seq ?_
  refine run ?_
  refine G_rd (rd_len 0 rfl els_sl rfl Try.underlying25) rfl rfl rfl ?_
  refine run ?_
  refine G_rd (rd_len 1 rfl els_sl rfl Try.underlying25) rfl rfl rfl ?_
  refine run ?_
  refine G_cond rfl (fun g3 => ?_) (fun g3 => ?_)
  · replace h := cond_t g3 h
    refine run ?_
    obtain rfl := Option.some.inj h
    exact endG1 rfl rfl (cv_sel [] 2 rfl rfl) ⟨rfl, rfl⟩
  · replace h := cond_f g3 h
    refine run ?_
    refine G_joinF (fun s L => pantomimeref15_SameValues_j4 N = some r ∧ s = [(4, .bool false)] ∧ L = []) ?_ ?_
    · refine run ?_
      refine G_loopF (fun m s L => ∃ (p6 : Int), pantomimeref15_SameValues_l5 N a0 a1 m p6 = some r ∧ s = [(0, .slice A1 n1 c1), (1, .slice A2 n2 c2), (4, .bool false), (5, .int .i64 p6)] ∧ L = [slC rDValue (.slice A1 n1 c1) a0, slC rDValue (.slice A2 n2 c2) a1]) N _ _ ⟨0, h, rfl, rfl⟩ (sub_cons rfl (sub_cons rfl (sub_cons rfl (sub_cons rfl sub_nil)))) (cv_sel [0, 1] 2 rfl rfl) ?_
      rintro (_ | m5) _ _ ⟨p6, h, rfl, rfl⟩
      · exact none_some h
      rw [pantomimeref15_SameValues_l5_s] at h
      refine G_seq ?_
      refine run ?_
      refine G_rd (rd_len 0 rfl els_sl rfl Try.underlying25) rfl rfl rfl ?_
      refine run ?_
      refine G_cond rfl (fun g7 => ?_) (fun g7 => ?_)
      · replace h := cond_t g7 h
        refine run ?_
        refine G_seq ?_
        refine G_block ?_
        refine G_seq ?_
        refine G_drawn (by kernel_rfl) _ (cv_refl _) ?_
        refine T3_ev 0 rfl (by kernel_rfl) (ev_move rfl) rfl rfl ?_
        refine T3_ev 1 rfl (by kernel_rfl) (ev_move rfl) rfl rfl ?_
        obtain ⟨x8, hx8, h⟩ := bind_elim h
        obtain ⟨lx8, ux8, hx8⟩ := getE_elim hx8
        refine T3_rd 2 rfl (by kernel_rfl) (rd_idx 0 rfl els_sl rfl rfl Try.underlying25 size38 lx8 ux8) rfl rfl ?_
        refine T3_rd 3 rfl (by kernel_rfl) (rd_elemS (us := [.int .i64 x8.Kind, .int .i64 x8.N, .string x8.S]) 0 rfl els_sl rfl hx8 agg38 (fun _ _ _ h => by rw [show _ = _ from h]; rfl)) rfl rfl ?_
        refine T3_ev 4 rfl (by kernel_rfl) (ev_move rfl) rfl rfl ?_
        refine T3_ev 5 rfl (by kernel_rfl) (ev_move rfl) rfl rfl ?_
        obtain ⟨x9, hx9, h⟩ := bind_elim h
        obtain ⟨lx9, ux9, hx9⟩ := getE_elim hx9
        refine T3_rd 6 rfl (by kernel_rfl) (rd_idx 1 rfl els_sl rfl rfl Try.underlying25 size38 lx9 ux9) rfl rfl ?_
        refine T3_rd 7 rfl (by kernel_rfl) (rd_elemS (us := [.int .i64 x9.Kind, .int .i64 x9.N, .string x9.S]) 1 rfl els_sl rfl hx9 agg38 (fun _ _ _ h => by rw [show _ = _ from h]; rfl)) rfl rfl ?_
        refine T3_ev 8 rfl (by kernel_rfl) (ev_seqn38 (x := x8) (y := x9) rfl rfl) rfl rfl ?_
        refine T3_done (by kernel_rfl) ?_
        refine nx_n ?_
        refine G_cond rfl (fun g10 => ?_) (fun g10 => ?_)
        · replace h := cond_t g10 h
          refine run ?_
          obtain rfl := Option.some.inj h
          exact endG1 rfl rfl (cv_sel [] 2 rfl rfl) ⟨rfl, rfl⟩
        · replace h := cond_f g10 h
          refine run ?_
          obtain ⟨q11, h⟩ := req_elim h
          refine G_ev (ev_add rfl rfl q11.1 q11.2) rfl rfl rfl ?_
          refine run ?_
          exact ⟨m5, _, _, Nat.lt_succ_self _, ⟨p6 + 1, h, rfl, rfl⟩, sub_cons rfl (sub_cons rfl (sub_cons rfl (sub_cons rfl sub_nil))), cv_sel [0, 1] 2 rfl rfl⟩
      · replace h := cond_f g7 h
        refine run ?_
        exact ⟨_, _, ⟨h, rfl, rfl⟩, sub_cons rfl sub_nil, cv_sel [] 2 rfl rfl⟩
    · rintro _ _ ⟨h, rfl, rfl⟩
      refine run ?_
      obtain rfl := Option.some.inj h
      exact endG1 rfl rfl (cv_sel [] 0 rfl rfl) ⟨rfl, rfl⟩
theorem pantomimeref15_SameValues_free {r : Bool} : ∀ v post, ((fun (u : Value) (post : List Chunk) => u = .bool r ∧ post = [])) v post → ∀ c ∈ post, Free c := by
  rintro _ _ ⟨rfl, rfl⟩; exact mem_nil
end Go.Proofs.Ytmbaennilhdieaa
