/- Pure functions and contracts of Go functions, second part (printed by rem2.py). -/
import Derived.Test.YtancgbfkpoeffaaR2
namespace Go.Proofs.Ytancgbfkpoeffaa
open Go.RowKit
/-! pantomime/pantomimeref21.Renew -/
def pantomimeref21_Renew_j4 (N : Nat) (p5 : (List Int)) : Option (List Int) :=
  some p5
def pantomimeref21_Renew_j11 (N : Nat) (kb6 : (List Int) → Int → Option (List Int)) (p8 : Int) (a0 : DMemory) (p12 : (List Int)) : Option (List Int) :=
  req (in64 (p8 + 1)) (kb6 p12 (p8 + 1))
def pantomimeref21_Renew_l6 (N : Nat) (a0 : DMemory) : Nat → (List Int) → Int → Option (List Int)
  | 0, _, _ => none
  | m6 + 1, p7, p8 => bif decide (p8 < (a0.Old.length : Int)) then ((getE a0.Old p8).bind fun x13 => (pantomimeref21_Young_O N x13).bind fun y17 => bif y17 then (req (in64 (2 * p8)) (req (in64 ((2 * p8) + 2)) (req (fitsL (p7.length + ([(2 * p8) + 2] : List Int).length)) (pantomimeref21_Renew_j11 N (pantomimeref21_Renew_l6 N a0 m6) p8 a0 (p7 ++ ([(2 * p8) + 2] : List Int)))))) else (pantomimeref21_Renew_j11 N (pantomimeref21_Renew_l6 N a0 m6) p8 a0 p7)) else (pantomimeref21_Renew_j4 N p7)
theorem pantomimeref21_Renew_l6_s {N m6 : Nat} {a0 : DMemory} {p7 : (List Int)} {p8 : Int} : pantomimeref21_Renew_l6 N a0 (m6 + 1) p7 p8 = bif decide (p8 < (a0.Old.length : Int)) then ((getE a0.Old p8).bind fun x13 => (pantomimeref21_Young_O N x13).bind fun y17 => bif y17 then (req (in64 (2 * p8)) (req (in64 ((2 * p8) + 2)) (req (fitsL (p7.length + ([(2 * p8) + 2] : List Int).length)) (pantomimeref21_Renew_j11 N (pantomimeref21_Renew_l6 N a0 m6) p8 a0 (p7 ++ ([(2 * p8) + 2] : List Int)))))) else (pantomimeref21_Renew_j11 N (pantomimeref21_Renew_l6 N a0 m6) p8 a0 p7)) else (pantomimeref21_Renew_j4 N p7) := rfl
def pantomimeref21_Renew_O (N : Nat) (a0 : DMemory) : Option (List Int) :=
  pantomimeref21_Renew_l6 N a0 N [] 0
theorem pantomimeref21_Renew_ok {N : Nat} {a0 : DMemory} {r : (List Int)} (h : pantomimeref21_Renew_O N a0 = some r) {A1 : Option Addr} {n1 c1 : Nat} {A2 : Option Addr} {n2 c2 : Nat} : Okc Try.prog 20 [.agg #[.slice A1 n1 c1, .slice A2 n2 c2]] ([slC rDCell (.slice A1 n1 c1) a0.Young, slC rDCell (.slice A2 n2 c2) a0.Old]) (fun (u : Value) (post : List Chunk) => ∃ A0 n0 c0, u = .slice A0 n0 c0 ∧ post = [ownC (rInt .i64) 3 (.slice A0 n0 c0) r]) := by
  refine ok_E Try.func20 rfl rfl ?_
  simp only [envOf]
  refine G_seq ?_
  refine G_region ?_
  refine G_opd (op_box rfl rfl) rfl rfl rfl ?_
  rintro _ _ ⟨B3, rfl, rfl⟩
  refine G_ev (ev_assign rfl) rfl rfl rfl ?_
  refine G_nil ?_
  refine nx_n ?_
  refine G_seq ?_
  refine G_region ?_
  refine G_ev (ev_assign rfl) rfl rfl rfl ?_
  refine G_nil ?_
  refine nx_n ?_
  refine G_joinF (fun s L => ∃ (p5 : (List Int)) (A5 : Option Addr) (n5 c5 : Nat), pantomimeref21_Renew_j4 N p5 = some r ∧ s = [(2, .slice none 0 0), (3, .slice A5 n5 c5)] ∧ L = [ownC (rInt .i64) 3 (.slice A5 n5 c5) p5]) ?_ ?_
  · refine G_seq ?_
    refine G_region ?_
    refine G_ev (ev_assign rfl) rfl rfl rfl ?_
    refine G_nil ?_
    refine nx_n ?_
    refine G_block ?_
    refine G_loopF (fun m s L => ∃ (p7 : (List Int)) (p8 : Int) (A7 : Option Addr) (n7 c7 : Nat), pantomimeref21_Renew_l6 N a0 m p7 p8 = some r ∧ s = [(1, .pointer (some ⟨B3, 0, none⟩)), (2, .slice none 0 0), (3, .slice A7 n7 c7), (4, .int .i64 p8)] ∧ L = [ownC (rInt .i64) 3 (.slice A7 n7 c7) p7, slC rDCell (.slice A1 n1 c1) a0.Young, slC rDCell (.slice A2 n2 c2) a0.Old, boxC B3 42 [.slice A1 n1 c1, .slice A2 n2 c2]]) N _ _ ⟨[], 0, none, 0, 0, h, rfl, rfl⟩ (sub_cons rfl (sub_cons rfl (sub_cons rfl (sub_cons rfl sub_nil)))) ((cv_nil (rInt .i64) 3 _).trans (cv_sel [0, 2, 3, 1] 4 rfl rfl)) ?_
    rintro (_ | m6) _ _ ⟨p7, p8, A7, n7, c7, h, rfl, rfl⟩
    · exact none_some h
    rw [pantomimeref21_Renew_l6_s] at h
    refine G_seq ?_
    refine G_seq ?_
    refine G_region ?_
    refine G_ev (ev_move rfl) rfl rfl rfl ?_
    refine G_ev (ev_fa rfl fa_42_1) rfl rfl rfl ?_
    refine G_rd (rd_box1 3 rfl rfl one24 rfl) rfl rfl rfl ?_
    refine G_rd (rd_len 2 rfl els_sl rfl Try.underlying24) rfl rfl rfl ?_
    refine G_ev (ev_lt rfl rfl) rfl rfl rfl ?_
    refine G_nil ?_
    refine nx_n ?_
    refine G_cond rfl (fun g10 => ?_) (fun g10 => ?_)
    · replace h := cond_t g10 h
      refine G_skip ?_
      refine nx_n ?_
      refine G_joinF (fun s L => ∃ (p12 : (List Int)) (A12 : Option Addr) (n12 c12 : Nat), pantomimeref21_Renew_j11 N (pantomimeref21_Renew_l6 N a0 m6) p8 a0 p12 = some r ∧ s = [(1, .pointer (some ⟨B3, 0, none⟩)), (2, .slice none 0 0), (3, .slice A12 n12 c12), (4, .int .i64 p8)] ∧ L = [ownC (rInt .i64) 3 (.slice A12 n12 c12) p12, slC rDCell (.slice A1 n1 c1) a0.Young, slC rDCell (.slice A2 n2 c2) a0.Old, boxC B3 42 [.slice A1 n1 c1, .slice A2 n2 c2]]) ?_ ?_
      · refine G_block ?_
        refine G_seq ?_
        refine G_region ?_
        refine G_ev (ev_fa rfl fa_42_1) rfl rfl rfl ?_
        refine G_rd (rd_box1 3 rfl rfl one24 rfl) rfl rfl rfl ?_
        refine G_ev (ev_move rfl) rfl rfl rfl ?_
        obtain ⟨x13, hx13, h⟩ := bind_elim h
        obtain ⟨lx13, ux13, hx13⟩ := getE_elim hx13
        refine G_rd (rd_idx 2 rfl els_sl rfl rfl Try.underlying24 size27 lx13 ux13) rfl rfl rfl ?_
        refine G_row 2 rfl hx13 (open_DCell x13) ?_
        rintro _ _ ⟨A14, n14, c14, A15, n15, c15, rfl, rfl⟩
        refine G_rd (rd_rowS (us := [.int .i64 x13.Kind, .int .i64 x13.Shape, .int .i64 x13.Flags, .int .i64 x13.Age, .slice A14 n14 c14, .slice A15 n15 c15]) 0 rfl rfl agg27 rfl) rfl rfl rfl ?_
        obtain ⟨y17, hy17, h⟩ := bind_elim h
        refine G_opd (op_callR (pantomimeref21_Young_ok hy17) call23 rfl (mem_cons (lent_ro (i := 1) rfl rfl) (mem_cons (lent_ro (i := 2) rfl rfl) mem_nil)) pantomimeref21_Young_free) rfl rfl rfl ?_
        rintro _ _ ⟨_, ⟨rfl, rfl⟩, rfl⟩
        refine G_nil ?_
        refine nx_n ?_
        refine G_cond rfl (fun g18 => ?_) (fun g18 => ?_)
        · replace h := cond_t g18 h
          refine G_region ?_
          refine G_ev (ev_move rfl) rfl rfl rfl ?_
          refine G_ev (ev_move rfl) rfl rfl rfl ?_
          obtain ⟨q19, h⟩ := req_elim h
          refine G_ev (ev_mul rfl rfl q19.1 q19.2) rfl rfl rfl ?_
          obtain ⟨q20, h⟩ := req_elim h
          refine G_ev (ev_add rfl rfl q20.1 q20.2) rfl rfl rfl ?_
          refine G_opd (op_bslice (R := (rInt .i64)) (vss := [[.int .i64 ((2 * p8) + 2)]]) (xs := [(2 * p8) + 2]) rfl (bsl_35_1 _) rfl rfl (fun _ _ hr => .cons rfl All2.nil)) rfl rfl rfl ?_
          rintro _ _ ⟨A21, n21, c21, rfl, rfl⟩
          obtain ⟨q22, h⟩ := req_elim h
          refine G_opd (op_append 4 0 rfl rfl els_own rfl rfl Try.underlying35 zb3 rfl rfl q22) rfl rfl rfl ?_
          rintro _ _ ⟨A23, n23, c23, rfl, rfl⟩
          refine G_norm ([ownC (rInt .i64) 3 (.slice A21 n21 c21) ([(2 * p8) + 2] : List Int), rowC (elemQ (.slice A2 n2 c2) p8.toNat 6 0) [.int .i64 x13.Kind, .int .i64 x13.Shape, .int .i64 x13.Flags, .int .i64 x13.Age, .slice A14 n14 c14, .slice A15 n15 c15], slC rDValue (.slice A14 n14 c14) x13.Slots, slC rDValue (.slice A15 n15 c15) x13.More, ownC (rInt .i64) 3 (.slice A23 n23 c23) (p7 ++ ([(2 * p8) + 2] : List Int)), slC rDCell (.slice A1 n1 c1) a0.Young, slC rDCell (.slice A2 n2 c2) a0.Old, boxC B3 42 [.slice A1 n1 c1, .slice A2 n2 c2]]) rfl ?_
          refine G_ev (ev_assign rfl) rfl rfl rfl ?_
          refine G_nil ?_
          refine bk_n ?_
          refine nx_n ?_
          exact ⟨_, _, ⟨p7 ++ ([(2 * p8) + 2] : List Int), A23, n23, c23, h, rfl, rfl⟩, sub_cons rfl (sub_cons rfl (sub_cons rfl (sub_cons rfl sub_nil))), cv_sel [4, 5, 6, 7] 8 rfl rfl⟩
        · replace h := cond_f g18 h
          refine G_skip ?_
          refine bk_n ?_
          refine nx_n ?_
          exact ⟨_, _, ⟨p7, A7, n7, c7, h, rfl, rfl⟩, sub_cons rfl (sub_cons rfl (sub_cons rfl (sub_cons rfl sub_nil))), cv_sel [3, 4, 5, 6] 7 rfl rfl⟩
      · rintro _ _ ⟨p12, A12, n12, c12, h, rfl, rfl⟩
        refine G_region ?_
        refine G_ev (ev_move rfl) rfl rfl rfl ?_
        obtain ⟨q24, h⟩ := req_elim h
        refine G_ev (ev_add rfl rfl q24.1 q24.2) rfl rfl rfl ?_
        refine G_ev (ev_assign rfl) rfl rfl rfl ?_
        refine G_nil ?_
        refine nx_n ?_
        exact ⟨m6, _, _, Nat.lt_succ_self _, ⟨p12, p8 + 1, A12, n12, c12, h, rfl, rfl⟩, sub_cons rfl (sub_cons rfl (sub_cons rfl (sub_cons rfl sub_nil))), cv_sel [0, 1, 2, 3] 4 rfl rfl⟩
    · replace h := cond_f g10 h
      refine G_exit ?_
      refine nx_e ?_
      refine nx_e ?_
      refine bk_x ?_
      refine nx_n ?_
      exact ⟨_, _, ⟨p7, A7, n7, c7, h, rfl, rfl⟩, sub_cons rfl (sub_cons rfl sub_nil), cv_sel [0] 4 rfl rfl⟩
  · rintro _ _ ⟨p5, A5, n5, c5, h, rfl, rfl⟩
    refine G_seq ?_
    refine G_region ?_
    refine G_ev (ev_move rfl) rfl rfl rfl ?_
    refine G_ev (ev_assign rfl) rfl rfl rfl ?_
    refine G_nil ?_
    refine nx_n ?_
    refine G_ret ?_
    obtain rfl := Option.some.inj h
    exact endG1 rfl rfl (cv_sel [0] 1 rfl rfl) ⟨_, _, _, rfl, rfl⟩
theorem pantomimeref21_Renew_free {r : (List Int)} : ∀ v post, ((fun (u : Value) (post : List Chunk) => ∃ A0 n0 c0, u = .slice A0 n0 c0 ∧ post = [ownC (rInt .i64) 3 (.slice A0 n0 c0) r])) v post → ∀ c ∈ post, Free c := by
  rintro _ _ ⟨_, _, _, rfl, rfl⟩; exact mem_cons free_own (mem_nil)
/-! slices.isNaN[int] -/
def slices_isNaN_O (N : Nat) (a0 : Int) : Option Bool :=
  some (!decide (a0 = a0))
theorem slices_isNaN_ok {N : Nat} {a0 : Int} {r : Bool} (h : slices_isNaN_O N a0 = some r) : Okc Try.prog 41 [.int .i64 a0] ([]) (fun (u : Value) (post : List Chunk) => u = .bool r ∧ post = []) := by
  refine ok_E Try.func41 rfl rfl ?_
  simp only [envOf]
  refine G_seq ?_
  refine G_region ?_
  refine G_ev (ev_assign rfl) rfl rfl rfl ?_
  refine G_nil ?_
  refine nx_n ?_
  refine G_seq ?_
  refine G_region ?_
  refine G_ev (ev_move rfl) rfl rfl rfl ?_
  refine G_ev (ev_move rfl) rfl rfl rfl ?_
  refine G_ev (ev_ne rfl rfl) rfl rfl rfl ?_
  refine G_ev (ev_assign rfl) rfl rfl rfl ?_
  refine G_nil ?_
  refine nx_n ?_
  refine G_ret ?_
  obtain rfl := Option.some.inj h
  exact endG1 rfl rfl (cv_sel [] 0 rfl rfl) ⟨rfl, rfl⟩
theorem slices_isNaN_free {r : Bool} : ∀ v post, ((fun (u : Value) (post : List Chunk) => u = .bool r ∧ post = [])) v post → ∀ c ∈ post, Free c := by
  rintro _ _ ⟨rfl, rfl⟩; exact mem_nil
/-! slices.BinarySearch[[]int,int] -/
def slices_BinarySearch_j2 (N : Nat) (a1 : Int) (a0 : (List Int)) (p3 : Int) : Option (Int × Bool) :=
  (bif decide (p3 < (a0.length : Int)) then ((getE a0 p3).bind fun x14 => (bif decide (x14 = a1) then (some true) else ((getE a0 p3).bind fun x16 => (slices_isNaN_O N x16).bind fun y17 => (bif y17 then ((slices_isNaN_O N a1).bind fun y19 => some y19) else (some false)).bind fun b18 => some b18)).bind fun b15 => some b15) else (some false)).bind fun b13 => some (p3, b13)
def slices_BinarySearch_l4 (N : Nat) (a1 : Int) (a0 : (List Int)) : Nat → Int → Int → Option (Int × Bool)
  | 0, _, _ => none
  | m4 + 1, p5, p6 => bif decide (p5 < p6) then (req (in64 (p5 + p6)) ((getE a0 (IntKind.i64.wrap ((IntKind.u64.wrap (p5 + p6)).fdiv (2 ^ 1)))).bind fun x9 => (cmp_Less_O N x9 a1).bind fun y10 => bif y10 then (req (in64 ((IntKind.i64.wrap ((IntKind.u64.wrap (p5 + p6)).fdiv (2 ^ 1))) + 1)) ((slices_BinarySearch_l4 N a1 a0 m4) ((IntKind.i64.wrap ((IntKind.u64.wrap (p5 + p6)).fdiv (2 ^ 1))) + 1) p6)) else ((slices_BinarySearch_l4 N a1 a0 m4) p5 (IntKind.i64.wrap ((IntKind.u64.wrap (p5 + p6)).fdiv (2 ^ 1)))))) else (slices_BinarySearch_j2 N a1 a0 p5)
theorem slices_BinarySearch_l4_s {N m4 : Nat} {a1 : Int} {a0 : (List Int)} {p5 : Int} {p6 : Int} : slices_BinarySearch_l4 N a1 a0 (m4 + 1) p5 p6 = bif decide (p5 < p6) then (req (in64 (p5 + p6)) ((getE a0 (IntKind.i64.wrap ((IntKind.u64.wrap (p5 + p6)).fdiv (2 ^ 1)))).bind fun x9 => (cmp_Less_O N x9 a1).bind fun y10 => bif y10 then (req (in64 ((IntKind.i64.wrap ((IntKind.u64.wrap (p5 + p6)).fdiv (2 ^ 1))) + 1)) ((slices_BinarySearch_l4 N a1 a0 m4) ((IntKind.i64.wrap ((IntKind.u64.wrap (p5 + p6)).fdiv (2 ^ 1))) + 1) p6)) else ((slices_BinarySearch_l4 N a1 a0 m4) p5 (IntKind.i64.wrap ((IntKind.u64.wrap (p5 + p6)).fdiv (2 ^ 1)))))) else (slices_BinarySearch_j2 N a1 a0 p5) := rfl
def slices_BinarySearch_O (N : Nat) (a0 : (List Int)) (a1 : Int) : Option (Int × Bool) :=
  slices_BinarySearch_l4 N a1 a0 N 0 (a0.length : Int)
theorem slices_BinarySearch_ok {N : Nat} {a0 : (List Int)} {a1 : Int} {r : (Int × Bool)} (h : slices_BinarySearch_O N a0 a1 = some r) {A1 : Option Addr} {n1 c1 : Nat} : Okc Try.prog 29 [.slice A1 n1 c1, .int .i64 a1] ([slC (rInt .i64) (.slice A1 n1 c1) a0]) (fun (u : Value) (post : List Chunk) => u = .tuple #[.int .i64 r.1, .bool r.2] ∧ post = []) := by
  refine ok_E Try.func29 rfl rfl ?_
  simp only [envOf]
  refine G_seq ?_
  refine G_region ?_
  refine G_ev (ev_assign rfl) rfl rfl rfl ?_
  refine G_ev (ev_assign rfl) rfl rfl rfl ?_
  refine G_nil ?_
  refine nx_n ?_
  refine G_seq ?_
  refine G_region ?_
  refine G_ev (ev_move rfl) rfl rfl rfl ?_
  refine G_rd (rd_len 0 rfl els_sl rfl Try.underlying35) rfl rfl rfl ?_
  refine G_ev (ev_assign rfl) rfl rfl rfl ?_
  refine G_nil ?_
  refine nx_n ?_
  refine G_seq ?_
  refine G_region ?_
  refine G_ev (ev_move rfl) rfl rfl rfl ?_
  refine G_ev (ev_assign rfl) rfl rfl rfl ?_
  refine G_ev (ev_assign rfl) rfl rfl rfl ?_
  refine G_nil ?_
  refine nx_n ?_
  refine G_joinF (fun s L => ∃ (p3 : Int), slices_BinarySearch_j2 N a1 a0 p3 = some r ∧ s = [(0, .slice A1 n1 c1), (1, .int .i64 a1), (4, .int .i64 0), (5, .bool false), (6, .int .i64 (a0.length : Int)), (7, .int .i64 p3)] ∧ L = [slC (rInt .i64) (.slice A1 n1 c1) a0]) ?_ ?_
  · refine G_block ?_
    refine G_loopF (fun m s L => ∃ (p5 : Int) (p6 : Int), slices_BinarySearch_l4 N a1 a0 m p5 p6 = some r ∧ s = [(0, .slice A1 n1 c1), (1, .int .i64 a1), (4, .int .i64 0), (5, .bool false), (6, .int .i64 (a0.length : Int)), (7, .int .i64 p5), (8, .int .i64 p6)] ∧ L = [slC (rInt .i64) (.slice A1 n1 c1) a0]) N _ _ ⟨0, (a0.length : Int), h, rfl, rfl⟩ (sub_cons rfl (sub_cons rfl (sub_cons rfl (sub_cons rfl (sub_cons rfl (sub_cons rfl (sub_cons rfl sub_nil))))))) (cv_sel [0] 1 rfl rfl) ?_
    rintro (_ | m4) _ _ ⟨p5, p6, h, rfl, rfl⟩
    · exact none_some h
    rw [slices_BinarySearch_l4_s] at h
    refine G_seq ?_
    refine G_seq ?_
    refine G_region ?_
    refine G_ev (ev_move rfl) rfl rfl rfl ?_
    refine G_ev (ev_move rfl) rfl rfl rfl ?_
    refine G_ev (ev_lt rfl rfl) rfl rfl rfl ?_
    refine G_nil ?_
    refine nx_n ?_
    refine G_cond rfl (fun g7 => ?_) (fun g7 => ?_)
    · replace h := cond_t g7 h
      refine G_skip ?_
      refine nx_n ?_
      refine G_block ?_
      refine G_seq ?_
      refine G_region ?_
      refine G_ev (ev_move rfl) rfl rfl rfl ?_
      refine G_ev (ev_move rfl) rfl rfl rfl ?_
      obtain ⟨q8, h⟩ := req_elim h
      refine G_ev (ev_add rfl rfl q8.1 q8.2) rfl rfl rfl ?_
      refine G_ev (ev_cv rfl rfl Try.underlying52) rfl rfl rfl ?_
      refine G_ev (ev_shr (v := (IntKind.u64.wrap (p5 + p6)).fdiv (2 ^ 1)) rfl rfl (fun _ => rfl)) rfl rfl rfl ?_
      refine G_ev (ev_cv rfl rfl Try.underlying3) rfl rfl rfl ?_
      refine G_ev (ev_assign rfl) rfl rfl rfl ?_
      refine G_nil ?_
      refine nx_n ?_
      refine G_seq ?_
      refine G_region ?_
      refine G_ev (ev_move rfl) rfl rfl rfl ?_
      refine G_ev (ev_move rfl) rfl rfl rfl ?_
      obtain ⟨x9, hx9, h⟩ := bind_elim h
      obtain ⟨lx9, ux9, hx9⟩ := getE_elim hx9
      refine G_rd (rd_idx 0 rfl els_sl rfl rfl Try.underlying35 size3 lx9 ux9) rfl rfl rfl ?_
      refine G_rd (rd_elem1 (u := .int .i64 x9) 0 rfl els_sl rfl hx9 one3 (fun _ _ _ h => by rw [show _ = _ from h]; rfl)) rfl rfl rfl ?_
      refine G_ev (ev_move rfl) rfl rfl rfl ?_
      obtain ⟨y10, hy10, h⟩ := bind_elim h
      refine G_opd (op_callR (cmp_Less_ok hy10) call40 rfl (mem_nil) cmp_Less_free) rfl rfl rfl ?_
      rintro _ _ ⟨_, ⟨rfl, rfl⟩, rfl⟩
      refine G_nil ?_
      refine nx_n ?_
      refine G_cond rfl (fun g11 => ?_) (fun g11 => ?_)
      · replace h := cond_t g11 h
        refine G_region ?_
        refine G_ev (ev_move rfl) rfl rfl rfl ?_
        obtain ⟨q12, h⟩ := req_elim h
        refine G_ev (ev_add rfl rfl q12.1 q12.2) rfl rfl rfl ?_
        refine G_ev (ev_assign rfl) rfl rfl rfl ?_
        refine G_nil ?_
        refine bk_n ?_
        refine nx_n ?_
        exact ⟨m4, _, _, Nat.lt_succ_self _, ⟨(IntKind.i64.wrap ((IntKind.u64.wrap (p5 + p6)).fdiv (2 ^ 1))) + 1, p6, h, rfl, rfl⟩, sub_cons rfl (sub_cons rfl (sub_cons rfl (sub_cons rfl (sub_cons rfl (sub_cons rfl (sub_cons rfl sub_nil)))))), cv_sel [0] 1 rfl rfl⟩
      · replace h := cond_f g11 h
        refine G_region ?_
        refine G_ev (ev_move rfl) rfl rfl rfl ?_
        refine G_ev (ev_assign rfl) rfl rfl rfl ?_
        refine G_nil ?_
        refine bk_n ?_
        refine nx_n ?_
        exact ⟨m4, _, _, Nat.lt_succ_self _, ⟨p5, (IntKind.i64.wrap ((IntKind.u64.wrap (p5 + p6)).fdiv (2 ^ 1))), h, rfl, rfl⟩, sub_cons rfl (sub_cons rfl (sub_cons rfl (sub_cons rfl (sub_cons rfl (sub_cons rfl (sub_cons rfl sub_nil)))))), cv_sel [0] 1 rfl rfl⟩
    · replace h := cond_f g7 h
      refine G_exit ?_
      refine nx_e ?_
      refine nx_e ?_
      refine bk_x ?_
      refine nx_n ?_
      exact ⟨_, _, ⟨p5, h, rfl, rfl⟩, sub_cons rfl (sub_cons rfl (sub_cons rfl (sub_cons rfl (sub_cons rfl (sub_cons rfl sub_nil))))), cv_sel [0] 1 rfl rfl⟩
  · rintro _ _ ⟨p3, h, rfl, rfl⟩
    refine G_seq ?_
    refine G_region ?_
    refine G_ev (ev_move rfl) rfl rfl rfl ?_
    refine G_ev (ev_move rfl) rfl rfl rfl ?_
    refine G_ev (ev_move rfl) rfl rfl rfl ?_
    refine G_ev (ev_lt rfl rfl) rfl rfl rfl ?_
    refine G_ev (ev_move rfl) rfl rfl rfl ?_
    obtain ⟨b13, hb13, h⟩ := bind_elim h
    refine G_segb 18 53 b13 ?_ ?_
    · clear h
      refine G_case 35 rfl (fun g13 => ?_) (fun g13 => ?_)
      · have h := cond_t g13 hb13
        refine G_ev (ev_move rfl) rfl (g_tt g13 rfl) rfl ?_
        refine G_ev (ev_move rfl) rfl (g_tt g13 rfl) rfl ?_
        obtain ⟨x14, hx14, h⟩ := bind_elim h
        obtain ⟨lx14, ux14, hx14⟩ := getE_elim hx14
        refine G_rd (rd_idx 0 rfl els_sl rfl rfl Try.underlying35 size3 lx14 ux14) rfl (g_tt g13 rfl) rfl ?_
        refine G_rd (rd_elem1 (u := .int .i64 x14) 0 rfl els_sl rfl hx14 one3 (fun _ _ _ h => by rw [show _ = _ from h]; rfl)) rfl (g_tt g13 rfl) rfl ?_
        refine G_ev (ev_move rfl) rfl (g_tt g13 rfl) rfl ?_
        refine G_ev (ev_eq rfl rfl) rfl (g_tt g13 rfl) rfl ?_
        refine G_ev (ev_move rfl) rfl (g_tt g13 rfl) rfl ?_
        obtain ⟨b15, hb15, h⟩ := bind_elim h
        refine G_segb 10 52 b15 ?_ ?_
        · clear h
          refine G_case 42 rfl (fun g15 => ?_) (fun g15 => ?_)
          · have h := cond_t g15 hb15
            refine G_no (g_ft g15 rfl) rfl ?_
            refine G_no (g_ft g15 rfl) rfl ?_
            refine G_no (g_ft g15 rfl) rfl ?_
            refine G_no (g_ft g15 rfl) rfl ?_
            refine G_no (g_ft g15 rfl) rfl ?_
            refine G_no (g_ft g15 rfl) rfl ?_
            refine G_no rfl rfl ?_
            refine G_no rfl rfl ?_
            refine G_no (g_ft g15 rfl) rfl ?_
            refine G_ev (ev_pick_t' g15 rfl rfl) rfl (g_tt g13 rfl) rfl ?_
            obtain rfl := Option.some.inj h
            exact G_joined (sub_cons rfl (sub_skip (sub_skip (sub_skip (sub_skip (sub_skip (sub_skip (sub_skip (sub_skip (sub_skip (sub_skip sub_refl rfl) rfl) rfl) rfl) rfl) rfl) rfl) rfl) rfl) rfl)) (cv_sel [0] 1 rfl rfl)
          · have h := cond_f g15 hb15
            refine G_ev (ev_move rfl) rfl (g_ff g15 rfl) rfl ?_
            refine G_ev (ev_move rfl) rfl (g_ff g15 rfl) rfl ?_
            obtain ⟨x16, hx16, h⟩ := bind_elim h
            obtain ⟨lx16, ux16, hx16⟩ := getE_elim hx16
            refine G_rd (rd_idx 0 rfl els_sl rfl rfl Try.underlying35 size3 lx16 ux16) rfl (g_ff g15 rfl) rfl ?_
            refine G_rd (rd_elem1 (u := .int .i64 x16) 0 rfl els_sl rfl hx16 one3 (fun _ _ _ h => by rw [show _ = _ from h]; rfl)) rfl (g_ff g15 rfl) rfl ?_
            obtain ⟨y17, hy17, h⟩ := bind_elim h
            refine G_opd (op_callR (slices_isNaN_ok hy17) call41 rfl (mem_nil) slices_isNaN_free) rfl (g_ff g15 rfl) rfl ?_
            rintro _ _ ⟨_, ⟨rfl, rfl⟩, rfl⟩
            refine G_ev (ev_move rfl) rfl (g_ff g15 rfl) rfl ?_
            obtain ⟨b18, hb18, h⟩ := bind_elim h
            refine G_segb 3 51 b18 ?_ ?_
            · clear h
              refine G_case 48 rfl (fun g18 => ?_) (fun g18 => ?_)
              · have h := cond_t g18 hb18
                refine G_ev (ev_move rfl) rfl (g_tt g18 rfl) rfl ?_
                obtain ⟨y19, hy19, h⟩ := bind_elim h
                refine G_opd (op_callR (slices_isNaN_ok hy19) call41 rfl (mem_nil) slices_isNaN_free) rfl (g_tt g18 rfl) rfl ?_
                rintro _ _ ⟨_, ⟨rfl, rfl⟩, rfl⟩
                refine G_ev (ev_pick_t' g18 rfl rfl) rfl (g_ff g15 rfl) rfl ?_
                obtain rfl := Option.some.inj h
                exact G_joined (sub_cons rfl (sub_skip (sub_skip (sub_skip sub_refl rfl) rfl) rfl)) (cv_sel [0] 1 rfl rfl)
              · have h := cond_f g18 hb18
                refine G_no (g_tf g18 rfl) rfl ?_
                refine G_no (g_tf g18 rfl) rfl ?_
                refine G_ev (ev_pick_f' g18 rfl rfl) rfl (g_ff g15 rfl) rfl ?_
                obtain rfl := Option.some.inj h
                exact G_joined (sub_cons rfl (sub_skip (sub_skip (sub_skip sub_refl rfl) rfl) rfl)) (cv_sel [0] 1 rfl rfl)
            refine G_ev (ev_pick_f' g15 rfl rfl) rfl (g_tt g13 rfl) rfl ?_
            obtain rfl := Option.some.inj h
            exact G_joined (sub_cons rfl (sub_skip (sub_skip (sub_skip (sub_skip (sub_skip (sub_skip (sub_skip (sub_skip sub_refl rfl) rfl) rfl) rfl) rfl) rfl) rfl) rfl)) (cv_sel [0] 1 rfl rfl)
        refine G_ev (ev_pick_t' g13 rfl rfl) rfl rfl rfl ?_
        obtain rfl := Option.some.inj h
        exact G_joined (sub_cons rfl (sub_skip (sub_skip (sub_skip (sub_skip (sub_skip (sub_skip (sub_skip (sub_skip (sub_skip sub_refl rfl) rfl) rfl) rfl) rfl) rfl) rfl) rfl) rfl)) (cv_sel [0] 1 rfl rfl)
      · have h := cond_f g13 hb13
        refine G_no (g_tf g13 rfl) rfl ?_
        refine G_no (g_tf g13 rfl) rfl ?_
        refine G_no (g_tf g13 rfl) rfl ?_
        refine G_no (g_tf g13 rfl) rfl ?_
        refine G_no (g_tf g13 rfl) rfl ?_
        refine G_no (g_tf g13 rfl) rfl ?_
        refine G_no (g_tf g13 rfl) rfl ?_
        refine G_no rfl rfl ?_
        refine G_no rfl rfl ?_
        refine G_no rfl rfl ?_
        refine G_no rfl rfl ?_
        refine G_no rfl rfl ?_
        refine G_no rfl rfl ?_
        refine G_no rfl rfl ?_
        refine G_no rfl rfl ?_
        refine G_no rfl rfl ?_
        refine G_no (g_tf g13 rfl) rfl ?_
        refine G_ev (ev_pick_f' g13 rfl rfl) rfl rfl rfl ?_
        obtain rfl := Option.some.inj h
        exact G_joined (sub_cons rfl (sub_skip (sub_skip (sub_skip (sub_skip (sub_skip (sub_skip (sub_skip (sub_skip (sub_skip (sub_skip (sub_skip (sub_skip (sub_skip (sub_skip (sub_skip (sub_skip (sub_skip (sub_skip sub_refl rfl) rfl) rfl) rfl) rfl) rfl) rfl) rfl) rfl) rfl) rfl) rfl) rfl) rfl) rfl) rfl) rfl) rfl)) (cv_sel [0] 1 rfl rfl)
    refine G_ev (ev_assign rfl) rfl rfl rfl ?_
    refine G_ev (ev_assign rfl) rfl rfl rfl ?_
    refine G_nil ?_
    refine nx_n ?_
    refine G_ret ?_
    obtain rfl := Option.some.inj h
    exact endG2 rfl rfl rfl (cv_sel [] 1 rfl rfl) ⟨rfl, rfl⟩
theorem slices_BinarySearch_free {r : (Int × Bool)} : ∀ v post, ((fun (u : Value) (post : List Chunk) => u = .tuple #[.int .i64 r.1, .bool r.2] ∧ post = [])) v post → ∀ c ∈ post, Free c := by
  rintro _ _ ⟨rfl, rfl⟩; exact mem_nil
/-! pantomime/remset.Right -/
def remset_Right_j19 (N : Nat) : Option Bool :=
  some true
def remset_Right_l20 (N : Nat) (a0 : DMemory) (a1 : (List Int)) : Nat → Int → Option Bool
  | 0, _ => none
  | m20 + 1, p21 => bif decide (p21 < (a0.Old.length : Int)) then ((getE a0.Old p21).bind fun x23 => req (in64 (2 * p21)) (req (in64 ((2 * p21) + 2)) ((slices_BinarySearch_O N a1 ((2 * p21) + 2)).bind fun y30 => (bif !y30.2 then ((remset_leads_O N x23).bind fun y32 => some y32) else (some false)).bind fun b31 => bif b31 then (some false) else (req (in64 (p21 + 1)) ((remset_Right_l20 N a0 a1 m20) (p21 + 1)))))) else (remset_Right_j19 N)
theorem remset_Right_l20_s {N m20 : Nat} {a0 : DMemory} {a1 : (List Int)} {p21 : Int} : remset_Right_l20 N a0 a1 (m20 + 1) p21 = bif decide (p21 < (a0.Old.length : Int)) then ((getE a0.Old p21).bind fun x23 => req (in64 (2 * p21)) (req (in64 ((2 * p21) + 2)) ((slices_BinarySearch_O N a1 ((2 * p21) + 2)).bind fun y30 => (bif !y30.2 then ((remset_leads_O N x23).bind fun y32 => some y32) else (some false)).bind fun b31 => bif b31 then (some false) else (req (in64 (p21 + 1)) ((remset_Right_l20 N a0 a1 m20) (p21 + 1)))))) else (remset_Right_j19 N) := rfl
def remset_Right_j5 (N : Nat) (a1 : (List Int)) (a0 : DMemory) : Option Bool :=
  remset_Right_l20 N a0 a1 N 0
def remset_Right_l6 (N : Nat) (a1 : (List Int)) (a0 : DMemory) : Nat → Int → Option Bool
  | 0, _ => none
  | m6 + 1, p7 => bif decide (p7 < (a1.length : Int)) then ((getE a1 p7).bind fun x9 => (remset_old_O N x9).bind fun y10 => (bif !y10 then (some true) else (req (in64 (x9.tdiv 2)) (some (decide ((a0.Old.length : Int) < x9.tdiv 2))))).bind fun b11 => (bif b11 then (some true) else ((bif decide (0 < p7) then (req (in64 (p7 - 1)) ((getE a1 (p7 - 1)).bind fun x16 => some (decide (x9 ≤ x16)))) else (some false)).bind fun b14 => some b14)).bind fun b13 => bif b13 then (some false) else (req (in64 (p7 + 1)) ((remset_Right_l6 N a1 a0 m6) (p7 + 1)))) else (remset_Right_j5 N a1 a0)
theorem remset_Right_l6_s {N m6 : Nat} {a1 : (List Int)} {a0 : DMemory} {p7 : Int} : remset_Right_l6 N a1 a0 (m6 + 1) p7 = bif decide (p7 < (a1.length : Int)) then ((getE a1 p7).bind fun x9 => (remset_old_O N x9).bind fun y10 => (bif !y10 then (some true) else (req (in64 (x9.tdiv 2)) (some (decide ((a0.Old.length : Int) < x9.tdiv 2))))).bind fun b11 => (bif b11 then (some true) else ((bif decide (0 < p7) then (req (in64 (p7 - 1)) ((getE a1 (p7 - 1)).bind fun x16 => some (decide (x9 ≤ x16)))) else (some false)).bind fun b14 => some b14)).bind fun b13 => bif b13 then (some false) else (req (in64 (p7 + 1)) ((remset_Right_l6 N a1 a0 m6) (p7 + 1)))) else (remset_Right_j5 N a1 a0) := rfl
def remset_Right_O (N : Nat) (a0 : DMemory) (a1 : (List Int)) : Option Bool :=
  remset_Right_l6 N a1 a0 N 0
theorem remset_Right_ok {N : Nat} {a0 : DMemory} {a1 : (List Int)} {r : Bool} (h : remset_Right_O N a0 a1 = some r) {A1 : Option Addr} {n1 c1 : Nat} {A2 : Option Addr} {n2 c2 : Nat} {A3 : Option Addr} {n3 c3 : Nat} : Okc Try.prog 21 [.agg #[.slice A1 n1 c1, .slice A2 n2 c2], .slice A3 n3 c3] ([slC rDCell (.slice A1 n1 c1) a0.Young, slC rDCell (.slice A2 n2 c2) a0.Old, slC (rInt .i64) (.slice A3 n3 c3) a1]) (fun (u : Value) (post : List Chunk) => u = .bool r ∧ post = []) := by
  refine ok_E Try.func21 rfl rfl ?_
  simp only [envOf]
  refine G_seq ?_
  refine G_region ?_
  refine G_opd (op_box rfl rfl) rfl rfl rfl ?_
  rintro _ _ ⟨B4, rfl, rfl⟩
  refine G_ev (ev_assign rfl) rfl rfl rfl ?_
  refine G_nil ?_
  refine nx_n ?_
  refine G_joinF (fun s L => remset_Right_j5 N a1 a0 = some r ∧ s = [(1, .slice A3 n3 c3), (2, .pointer (some ⟨B4, 0, none⟩)), (4, .bool false)] ∧ L = [slC (rInt .i64) (.slice A3 n3 c3) a1, slC rDCell (.slice A1 n1 c1) a0.Young, slC rDCell (.slice A2 n2 c2) a0.Old, boxC B4 42 [.slice A1 n1 c1, .slice A2 n2 c2]]) ?_ ?_
  · refine G_seq ?_
    refine G_region ?_
    refine G_ev (ev_move rfl) rfl rfl rfl ?_
    refine G_rd (rd_len 3 rfl els_sl rfl Try.underlying35) rfl rfl rfl ?_
    refine G_ev (ev_move rfl) rfl rfl rfl ?_
    refine G_nil ?_
    refine nx_n ?_
    refine G_block ?_
    refine G_loopF (fun m s L => ∃ (p7 : Int), remset_Right_l6 N a1 a0 m p7 = some r ∧ s = [(1, .slice A3 n3 c3), (2, .pointer (some ⟨B4, 0, none⟩)), (4, .bool false), (11, .slice A3 n3 c3), (12, .int .i64 (a1.length : Int)), (13, .int .i64 p7)] ∧ L = [slC (rInt .i64) (.slice A3 n3 c3) a1, slC rDCell (.slice A1 n1 c1) a0.Young, slC rDCell (.slice A2 n2 c2) a0.Old, boxC B4 42 [.slice A1 n1 c1, .slice A2 n2 c2]]) N _ _ ⟨0, h, rfl, rfl⟩ (sub_cons rfl (sub_cons rfl (sub_cons rfl (sub_cons rfl (sub_cons rfl (sub_cons rfl sub_nil)))))) (cv_sel [3, 1, 2, 0] 4 rfl rfl) ?_
    rintro (_ | m6) _ _ ⟨p7, h, rfl, rfl⟩
    · exact none_some h
    rw [remset_Right_l6_s] at h
    refine G_seq ?_
    refine G_region ?_
    refine G_ev (ev_lt rfl rfl) rfl rfl rfl ?_
    refine G_nil ?_
    refine nx_n ?_
    refine G_seq ?_
    refine G_cond rfl (fun g8 => ?_) (fun g8 => ?_)
    · replace h := cond_t g8 h
      refine G_skip ?_
      refine nx_n ?_
      refine G_seq ?_
      refine G_block ?_
      refine G_seq ?_
      refine G_region ?_
      refine G_ev (ev_move rfl) rfl rfl rfl ?_
      obtain ⟨x9, hx9, h⟩ := bind_elim h
      obtain ⟨lx9, ux9, hx9⟩ := getE_elim hx9
      refine G_rd (rd_idx 0 rfl els_sl rfl rfl Try.underlying35 size3 lx9 ux9) rfl rfl rfl ?_
      refine G_rd (rd_elem1 (u := .int .i64 x9) 0 rfl els_sl rfl hx9 one3 (fun _ _ _ h => by rw [show _ = _ from h]; rfl)) rfl rfl rfl ?_
      refine G_ev (ev_assign rfl) rfl rfl rfl ?_
      refine G_ev (ev_assign rfl) rfl rfl rfl ?_
      refine G_nil ?_
      refine nx_n ?_
      refine G_seq ?_
      refine G_region ?_
      refine G_ev (ev_move rfl) rfl rfl rfl ?_
      obtain ⟨y10, hy10, h⟩ := bind_elim h
      refine G_opd (op_callR (remset_old_ok hy10) call24 rfl (mem_nil) remset_old_free) rfl rfl rfl ?_
      rintro _ _ ⟨_, ⟨rfl, rfl⟩, rfl⟩
      refine G_ev (ev_not rfl) rfl rfl rfl ?_
      refine G_ev (ev_move rfl) rfl rfl rfl ?_
      obtain ⟨b11, hb11, h⟩ := bind_elim h
      refine G_segb 7 28 b11 ?_ ?_
      · clear h
        refine G_case 21 rfl (fun g11 => ?_) (fun g11 => ?_)
        · have h := cond_t g11 hb11
          refine G_no (g_ft g11 rfl) rfl ?_
          refine G_no (g_ft g11 rfl) rfl ?_
          refine G_no (g_ft g11 rfl) rfl ?_
          refine G_no (g_ft g11 rfl) rfl ?_
          refine G_no (g_ft g11 rfl) rfl ?_
          refine G_no (g_ft g11 rfl) rfl ?_
          refine G_ev (ev_pick_t' g11 rfl rfl) rfl rfl rfl ?_
          obtain rfl := Option.some.inj h
          exact G_joined (sub_cons rfl (sub_skip (sub_skip (sub_skip (sub_skip (sub_skip (sub_skip (sub_skip sub_refl rfl) rfl) rfl) rfl) rfl) rfl) rfl)) (cv_sel [0, 1, 2, 3] 4 rfl rfl)
        · have h := cond_f g11 hb11
          refine G_ev (ev_move rfl) rfl (g_ff g11 rfl) rfl ?_
          obtain ⟨q12, h⟩ := req_elim h
          refine G_ev (ev_quo rfl rfl (by decide) q12.1 q12.2) rfl (g_ff g11 rfl) rfl ?_
          refine G_ev (ev_fa rfl fa_42_1) rfl (g_ff g11 rfl) rfl ?_
          refine G_rd (rd_box1 3 rfl rfl one24 rfl) rfl (g_ff g11 rfl) rfl ?_
          refine G_rd (rd_len 2 rfl els_sl rfl Try.underlying24) rfl (g_ff g11 rfl) rfl ?_
          refine G_ev (ev_gt rfl rfl) rfl (g_ff g11 rfl) rfl ?_
          refine G_ev (ev_pick_f' g11 rfl rfl) rfl rfl rfl ?_
          obtain rfl := Option.some.inj h
          exact G_joined (sub_cons rfl (sub_skip (sub_skip (sub_skip (sub_skip (sub_skip (sub_skip (sub_skip sub_refl rfl) rfl) rfl) rfl) rfl) rfl) rfl)) (cv_sel [0, 1, 2, 3] 4 rfl rfl)
      refine G_ev (ev_move rfl) rfl rfl rfl ?_
      obtain ⟨b13, hb13, h⟩ := bind_elim h
      refine G_segb 12 41 b13 ?_ ?_
      · clear h
        refine G_case 29 rfl (fun g13 => ?_) (fun g13 => ?_)
        · have h := cond_t g13 hb13
          refine G_no (g_ft g13 rfl) rfl ?_
          refine G_no (g_ft g13 rfl) rfl ?_
          refine G_no (g_ft g13 rfl) rfl ?_
          refine G_no rfl rfl ?_
          refine G_no rfl rfl ?_
          refine G_no rfl rfl ?_
          refine G_no rfl rfl ?_
          refine G_no rfl rfl ?_
          refine G_no rfl rfl ?_
          refine G_no rfl rfl ?_
          refine G_no (g_ft g13 rfl) rfl ?_
          refine G_ev (ev_pick_t' g13 rfl rfl) rfl rfl rfl ?_
          obtain rfl := Option.some.inj h
          exact G_joined (sub_cons rfl (sub_skip (sub_skip (sub_skip (sub_skip (sub_skip (sub_skip (sub_skip (sub_skip (sub_skip (sub_skip (sub_skip (sub_skip sub_refl rfl) rfl) rfl) rfl) rfl) rfl) rfl) rfl) rfl) rfl) rfl) rfl)) (cv_sel [0, 1, 2, 3] 4 rfl rfl)
        · have h := cond_f g13 hb13
          refine G_ev (ev_move rfl) rfl (g_ff g13 rfl) rfl ?_
          refine G_ev (ev_gt rfl rfl) rfl (g_ff g13 rfl) rfl ?_
          refine G_ev (ev_move rfl) rfl (g_ff g13 rfl) rfl ?_
          obtain ⟨b14, hb14, h⟩ := bind_elim h
          refine G_segb 8 40 b14 ?_ ?_
          · clear h
            refine G_case 32 rfl (fun g14 => ?_) (fun g14 => ?_)
            · have h := cond_t g14 hb14
              refine G_ev (ev_move rfl) rfl (g_tt g14 rfl) rfl ?_
              refine G_ev (ev_move rfl) rfl (g_tt g14 rfl) rfl ?_
              refine G_ev (ev_move rfl) rfl (g_tt g14 rfl) rfl ?_
              obtain ⟨q15, h⟩ := req_elim h
              refine G_ev (ev_sub rfl rfl q15.1 q15.2) rfl (g_tt g14 rfl) rfl ?_
              obtain ⟨x16, hx16, h⟩ := bind_elim h
              obtain ⟨lx16, ux16, hx16⟩ := getE_elim hx16
              refine G_rd (rd_idx 0 rfl els_sl rfl rfl Try.underlying35 size3 lx16 ux16) rfl (g_tt g14 rfl) rfl ?_
              refine G_rd (rd_elem1 (u := .int .i64 x16) 0 rfl els_sl rfl hx16 one3 (fun _ _ _ h => by rw [show _ = _ from h]; rfl)) rfl (g_tt g14 rfl) rfl ?_
              refine G_ev (ev_le rfl rfl) rfl (g_tt g14 rfl) rfl ?_
              refine G_ev (ev_pick_t' g14 rfl rfl) rfl (g_ff g13 rfl) rfl ?_
              obtain rfl := Option.some.inj h
              exact G_joined (sub_cons rfl (sub_skip (sub_skip (sub_skip (sub_skip (sub_skip (sub_skip (sub_skip (sub_skip sub_refl rfl) rfl) rfl) rfl) rfl) rfl) rfl) rfl)) (cv_sel [0, 1, 2, 3] 4 rfl rfl)
            · have h := cond_f g14 hb14
              refine G_no (g_tf g14 rfl) rfl ?_
              refine G_no (g_tf g14 rfl) rfl ?_
              refine G_no (g_tf g14 rfl) rfl ?_
              refine G_no (g_tf g14 rfl) rfl ?_
              refine G_no (g_tf g14 rfl) rfl ?_
              refine G_no (g_tf g14 rfl) rfl ?_
              refine G_no (g_tf g14 rfl) rfl ?_
              refine G_ev (ev_pick_f' g14 rfl rfl) rfl (g_ff g13 rfl) rfl ?_
              obtain rfl := Option.some.inj h
              exact G_joined (sub_cons rfl (sub_skip (sub_skip (sub_skip (sub_skip (sub_skip (sub_skip (sub_skip (sub_skip sub_refl rfl) rfl) rfl) rfl) rfl) rfl) rfl) rfl)) (cv_sel [0, 1, 2, 3] 4 rfl rfl)
          refine G_ev (ev_pick_f' g13 rfl rfl) rfl rfl rfl ?_
          obtain rfl := Option.some.inj h
          exact G_joined (sub_cons rfl (sub_skip (sub_skip (sub_skip (sub_skip (sub_skip sub_refl rfl) rfl) rfl) rfl) rfl)) (cv_sel [0, 1, 2, 3] 4 rfl rfl)
      refine G_nil ?_
      refine nx_n ?_
      refine G_cond rfl (fun g17 => ?_) (fun g17 => ?_)
      · replace h := cond_t g17 h
        refine G_seq ?_
        refine G_region ?_
        refine G_ev (ev_assign rfl) rfl rfl rfl ?_
        refine G_nil ?_
        refine nx_n ?_
        refine G_ret ?_
        refine bk_r ?_
        refine nx_r ?_
        refine nx_r ?_
        refine bk_r ?_
        refine nx_r ?_
        obtain rfl := Option.some.inj h
        exact endG1 rfl rfl (cv_sel [] 4 rfl rfl) ⟨rfl, rfl⟩
      · replace h := cond_f g17 h
        refine G_skip ?_
        refine bk_n ?_
        refine nx_n ?_
        refine G_region ?_
        obtain ⟨q18, h⟩ := req_elim h
        refine G_ev (ev_add rfl rfl q18.1 q18.2) rfl rfl rfl ?_
        refine G_ev (ev_move rfl) rfl rfl rfl ?_
        refine G_nil ?_
        refine nx_n ?_
        exact ⟨m6, _, _, Nat.lt_succ_self _, ⟨p7 + 1, h, rfl, rfl⟩, sub_cons rfl (sub_cons rfl (sub_cons rfl (sub_cons rfl (sub_cons rfl (sub_cons rfl sub_nil))))), cv_sel [0, 1, 2, 3] 4 rfl rfl⟩
    · replace h := cond_f g8 h
      refine G_exit ?_
      refine nx_e ?_
      refine nx_e ?_
      refine bk_x ?_
      refine nx_n ?_
      exact ⟨_, _, ⟨h, rfl, rfl⟩, sub_cons rfl (sub_cons rfl (sub_cons rfl sub_nil)), cv_sel [0, 1, 2, 3] 4 rfl rfl⟩
  · rintro _ _ ⟨h, rfl, rfl⟩
    refine G_joinF (fun s L => remset_Right_j19 N = some r ∧ s = [(4, .bool false)] ∧ L = []) ?_ ?_
    · refine G_seq ?_
      refine G_region ?_
      refine G_ev (ev_fa rfl fa_42_1) rfl rfl rfl ?_
      refine G_rd (rd_box1 3 rfl rfl one24 rfl) rfl rfl rfl ?_
      refine G_rd (rd_len 2 rfl els_sl rfl Try.underlying24) rfl rfl rfl ?_
      refine G_ev (ev_move rfl) rfl rfl rfl ?_
      refine G_nil ?_
      refine nx_n ?_
      refine G_block ?_
      refine G_loopF (fun m s L => ∃ (p21 : Int), remset_Right_l20 N a0 a1 m p21 = some r ∧ s = [(1, .slice A3 n3 c3), (4, .bool false), (44, .slice A2 n2 c2), (45, .int .i64 (a0.Old.length : Int)), (46, .int .i64 p21)] ∧ L = [slC (rInt .i64) (.slice A3 n3 c3) a1, slC rDCell (.slice A2 n2 c2) a0.Old]) N _ _ ⟨0, h, rfl, rfl⟩ (sub_cons rfl (sub_cons rfl (sub_cons rfl (sub_cons rfl (sub_cons rfl sub_nil))))) (cv_sel [0, 2] 4 rfl rfl) ?_
      rintro (_ | m20) _ _ ⟨p21, h, rfl, rfl⟩
      · exact none_some h
      rw [remset_Right_l20_s] at h
      refine G_seq ?_
      refine G_region ?_
      refine G_ev (ev_lt rfl rfl) rfl rfl rfl ?_
      refine G_nil ?_
      refine nx_n ?_
      refine G_seq ?_
      refine G_cond rfl (fun g22 => ?_) (fun g22 => ?_)
      · replace h := cond_t g22 h
        refine G_skip ?_
        refine nx_n ?_
        refine G_seq ?_
        refine G_block ?_
        refine G_seq ?_
        refine G_region ?_
        refine G_ev (ev_move rfl) rfl rfl rfl ?_
        obtain ⟨x23, hx23, h⟩ := bind_elim h
        obtain ⟨lx23, ux23, hx23⟩ := getE_elim hx23
        refine G_rd (rd_idx 1 rfl els_sl rfl rfl Try.underlying24 size27 lx23 ux23) rfl rfl rfl ?_
        refine G_row 1 rfl hx23 (open_DCell x23) ?_
        rintro _ _ ⟨A24, n24, c24, A25, n25, c25, rfl, rfl⟩
        refine G_rd (rd_rowS (us := [.int .i64 x23.Kind, .int .i64 x23.Shape, .int .i64 x23.Flags, .int .i64 x23.Age, .slice A24 n24 c24, .slice A25 n25 c25]) 0 rfl rfl agg27 rfl) rfl rfl rfl ?_
        refine G_opd (op_alloc zero27 rfl) rfl rfl rfl ?_
        rintro _ _ ⟨B27, rfl, rfl⟩
        refine G_ev (ev_assign rfl) rfl rfl rfl ?_
        refine G_opn (op_store (us := [.int .i64 x23.Kind, .int .i64 x23.Shape, .int .i64 x23.Flags, .int .i64 x23.Age, .slice A24 n24 c24, .slice A25 n25 c25]) (cs' := [.int .i64 x23.Kind, .int .i64 x23.Shape, .int .i64 x23.Flags, .int .i64 x23.Age, .slice A24 n24 c24, .slice A25 n25 c25]) 0 rfl rfl rfl rfl size27 rfl rfl rfl) rfl rfl ?_
        rintro _ _ rfl
        refine G_norm ([boxC B27 27 [.int .i64 x23.Kind, .int .i64 x23.Shape, .int .i64 x23.Flags, .int .i64 x23.Age, .slice A24 n24 c24, .slice A25 n25 c25], rowC (elemQ (.slice A2 n2 c2) p21.toNat 6 0) [.int .i64 x23.Kind, .int .i64 x23.Shape, .int .i64 x23.Flags, .int .i64 x23.Age, .slice A24 n24 c24, .slice A25 n25 c25], slC rDValue (.slice A24 n24 c24) x23.Slots, slC rDValue (.slice A25 n25 c25) x23.More, slC (rInt .i64) (.slice A3 n3 c3) a1, slC rDCell (.slice A2 n2 c2) a0.Old]) rfl ?_
        refine G_nil ?_
        refine nx_n ?_
        refine G_seq ?_
        refine G_region ?_
        refine G_ev (ev_move rfl) rfl rfl rfl ?_
        refine G_ev (ev_move rfl) rfl rfl rfl ?_
        obtain ⟨q28, h⟩ := req_elim h
        refine G_ev (ev_mul rfl rfl q28.1 q28.2) rfl rfl rfl ?_
        obtain ⟨q29, h⟩ := req_elim h
        refine G_ev (ev_add rfl rfl q29.1 q29.2) rfl rfl rfl ?_
        obtain ⟨y30, hy30, h⟩ := bind_elim h
        refine G_opd (op_callR (slices_BinarySearch_ok hy30) call29 rfl (mem_cons (lent_ro (i := 4) rfl rfl) mem_nil) slices_BinarySearch_free) rfl rfl rfl ?_
        rintro _ _ ⟨_, ⟨rfl, rfl⟩, rfl⟩
        refine G_ev (ev_move rfl) rfl rfl rfl ?_
        refine G_ev (ev_extract rfl rfl) rfl rfl rfl ?_
        refine G_ev (ev_extract rfl rfl) rfl rfl rfl ?_
        refine G_ev (ev_assign rfl) rfl rfl rfl ?_
        refine G_ev (ev_assign rfl) rfl rfl rfl ?_
        refine G_nil ?_
        refine nx_n ?_
        refine G_seq ?_
        refine G_region ?_
        refine G_ev (ev_move rfl) rfl rfl rfl ?_
        refine G_ev (ev_not rfl) rfl rfl rfl ?_
        refine G_ev (ev_move rfl) rfl rfl rfl ?_
        obtain ⟨b31, hb31, h⟩ := bind_elim h
        refine G_segb 3 64 b31 ?_ ?_
        · clear h
          refine G_case 61 rfl (fun g31 => ?_) (fun g31 => ?_)
          · have h := cond_t g31 hb31
            refine G_rd (rd_boxS (us := [.int .i64 x23.Kind, .int .i64 x23.Shape, .int .i64 x23.Flags, .int .i64 x23.Age, .slice A24 n24 c24, .slice A25 n25 c25]) 0 rfl rfl agg27 rfl) rfl (g_tt g31 rfl) rfl ?_
            obtain ⟨y32, hy32, h⟩ := bind_elim h
            refine G_opd (op_callR (remset_leads_ok hy32) call25 rfl (mem_cons (lent_ro (i := 2) rfl rfl) (mem_cons (lent_ro (i := 3) rfl rfl) mem_nil)) remset_leads_free) rfl (g_tt g31 rfl) rfl ?_
            rintro _ _ ⟨_, ⟨rfl, rfl⟩, rfl⟩
            refine G_ev (ev_pick_t' g31 rfl rfl) rfl rfl rfl ?_
            obtain rfl := Option.some.inj h
            exact G_joined (sub_cons rfl (sub_skip (sub_skip (sub_skip sub_refl rfl) rfl) rfl)) (cv_sel [0, 1, 2, 3, 4, 5] 6 rfl rfl)
          · have h := cond_f g31 hb31
            refine G_no (g_tf g31 rfl) rfl ?_
            refine G_no (g_tf g31 rfl) rfl ?_
            refine G_ev (ev_pick_f' g31 rfl rfl) rfl rfl rfl ?_
            obtain rfl := Option.some.inj h
            exact G_joined (sub_cons rfl (sub_skip (sub_skip (sub_skip sub_refl rfl) rfl) rfl)) (cv_sel [0, 1, 2, 3, 4, 5] 6 rfl rfl)
        refine G_nil ?_
        refine nx_n ?_
        refine G_cond rfl (fun g33 => ?_) (fun g33 => ?_)
        · replace h := cond_t g33 h
          refine G_seq ?_
          refine G_region ?_
          refine G_ev (ev_assign rfl) rfl rfl rfl ?_
          refine G_nil ?_
          refine nx_n ?_
          refine G_ret ?_
          refine bk_r ?_
          refine nx_r ?_
          refine nx_r ?_
          refine bk_r ?_
          refine nx_r ?_
          obtain rfl := Option.some.inj h
          exact endG1 rfl rfl (cv_sel [] 6 rfl rfl) ⟨rfl, rfl⟩
        · replace h := cond_f g33 h
          refine G_skip ?_
          refine bk_n ?_
          refine nx_n ?_
          refine G_region ?_
          obtain ⟨q34, h⟩ := req_elim h
          refine G_ev (ev_add rfl rfl q34.1 q34.2) rfl rfl rfl ?_
          refine G_ev (ev_move rfl) rfl rfl rfl ?_
          refine G_nil ?_
          refine nx_n ?_
          exact ⟨m20, _, _, Nat.lt_succ_self _, ⟨p21 + 1, h, rfl, rfl⟩, sub_cons rfl (sub_cons rfl (sub_cons rfl (sub_cons rfl (sub_cons rfl sub_nil)))), cv_sel [4, 5] 6 rfl rfl⟩
      · replace h := cond_f g22 h
        refine G_exit ?_
        refine nx_e ?_
        refine nx_e ?_
        refine bk_x ?_
        refine nx_n ?_
        exact ⟨_, _, ⟨h, rfl, rfl⟩, sub_cons rfl sub_nil, cv_sel [] 2 rfl rfl⟩
    · rintro _ _ ⟨h, rfl, rfl⟩
      refine G_seq ?_
      refine G_region ?_
      refine G_ev (ev_assign rfl) rfl rfl rfl ?_
      refine G_nil ?_
      refine nx_n ?_
      refine G_ret ?_
      obtain rfl := Option.some.inj h
      exact endG1 rfl rfl (cv_sel [] 0 rfl rfl) ⟨rfl, rfl⟩
theorem remset_Right_free {r : Bool} : ∀ v post, ((fun (u : Value) (post : List Chunk) => u = .bool r ∧ post = [])) v post → ∀ c ∈ post, Free c := by
  rintro _ _ ⟨rfl, rfl⟩; exact mem_nil
/-! pantomime/pantomimeref21.among -/
def pantomimeref21_among_j2 (N : Nat) : Option Bool :=
  some false
def pantomimeref21_among_l3 (N : Nat) (a1 : Int) (a0 : (List Int)) : Nat → Int → Option Bool
  | 0, _ => none
  | m3 + 1, p4 => bif decide (p4 < (a0.length : Int)) then ((getE a0 p4).bind fun x6 => bif decide (x6 = a1) then (some true) else (req (in64 (p4 + 1)) ((pantomimeref21_among_l3 N a1 a0 m3) (p4 + 1)))) else (pantomimeref21_among_j2 N)
theorem pantomimeref21_among_l3_s {N m3 : Nat} {a1 : Int} {a0 : (List Int)} {p4 : Int} : pantomimeref21_among_l3 N a1 a0 (m3 + 1) p4 = bif decide (p4 < (a0.length : Int)) then ((getE a0 p4).bind fun x6 => bif decide (x6 = a1) then (some true) else (req (in64 (p4 + 1)) ((pantomimeref21_among_l3 N a1 a0 m3) (p4 + 1)))) else (pantomimeref21_among_j2 N) := rfl
def pantomimeref21_among_O (N : Nat) (a0 : (List Int)) (a1 : Int) : Option Bool :=
  pantomimeref21_among_l3 N a1 a0 N 0
theorem pantomimeref21_among_ok {N : Nat} {a0 : (List Int)} {a1 : Int} {r : Bool} (h : pantomimeref21_among_O N a0 a1 = some r) {A1 : Option Addr} {n1 c1 : Nat} : Okc Try.prog 30 [.slice A1 n1 c1, .int .i64 a1] ([slC (rInt .i64) (.slice A1 n1 c1) a0]) (fun (u : Value) (post : List Chunk) => u = .bool r ∧ post = []) := by
  refine ok_E Try.func30 rfl rfl ?_
  simp only [envOf]
  refine G_seq ?_
  refine G_region ?_
  refine G_ev (ev_assign rfl) rfl rfl rfl ?_
  refine G_nil ?_
  refine nx_n ?_
  refine G_joinF (fun s L => pantomimeref21_among_j2 N = some r ∧ s = [(4, .bool false)] ∧ L = []) ?_ ?_
  · refine G_seq ?_
    refine G_region ?_
    refine G_ev (ev_assign rfl) rfl rfl rfl ?_
    refine G_nil ?_
    refine nx_n ?_
    refine G_block ?_
    refine G_loopF (fun m s L => ∃ (p4 : Int), pantomimeref21_among_l3 N a1 a0 m p4 = some r ∧ s = [(0, .slice A1 n1 c1), (1, .int .i64 a1), (4, .bool false), (5, .int .i64 p4)] ∧ L = [slC (rInt .i64) (.slice A1 n1 c1) a0]) N _ _ ⟨0, h, rfl, rfl⟩ (sub_cons rfl (sub_cons rfl (sub_cons rfl (sub_cons rfl sub_nil)))) (cv_sel [0] 1 rfl rfl) ?_
    rintro (_ | m3) _ _ ⟨p4, h, rfl, rfl⟩
    · exact none_some h
    rw [pantomimeref21_among_l3_s] at h
    refine G_seq ?_
    refine G_seq ?_
    refine G_region ?_
    refine G_ev (ev_move rfl) rfl rfl rfl ?_
    refine G_ev (ev_move rfl) rfl rfl rfl ?_
    refine G_rd (rd_len 0 rfl els_sl rfl Try.underlying35) rfl rfl rfl ?_
    refine G_ev (ev_lt rfl rfl) rfl rfl rfl ?_
    refine G_nil ?_
    refine nx_n ?_
    refine G_cond rfl (fun g5 => ?_) (fun g5 => ?_)
    · replace h := cond_t g5 h
      refine G_skip ?_
      refine nx_n ?_
      refine G_seq ?_
      refine G_block ?_
      refine G_seq ?_
      refine G_region ?_
      refine G_ev (ev_move rfl) rfl rfl rfl ?_
      refine G_ev (ev_move rfl) rfl rfl rfl ?_
      obtain ⟨x6, hx6, h⟩ := bind_elim h
      obtain ⟨lx6, ux6, hx6⟩ := getE_elim hx6
      refine G_rd (rd_idx 0 rfl els_sl rfl rfl Try.underlying35 size3 lx6 ux6) rfl rfl rfl ?_
      refine G_rd (rd_elem1 (u := .int .i64 x6) 0 rfl els_sl rfl hx6 one3 (fun _ _ _ h => by rw [show _ = _ from h]; rfl)) rfl rfl rfl ?_
      refine G_ev (ev_move rfl) rfl rfl rfl ?_
      refine G_ev (ev_eq rfl rfl) rfl rfl rfl ?_
      refine G_nil ?_
      refine nx_n ?_
      refine G_cond rfl (fun g7 => ?_) (fun g7 => ?_)
      · replace h := cond_t g7 h
        refine G_seq ?_
        refine G_region ?_
        refine G_ev (ev_assign rfl) rfl rfl rfl ?_
        refine G_nil ?_
        refine nx_n ?_
        refine G_ret ?_
        refine bk_r ?_
        refine nx_r ?_
        refine nx_r ?_
        refine bk_r ?_
        refine nx_r ?_
        obtain rfl := Option.some.inj h
        exact endG1 rfl rfl (cv_sel [] 1 rfl rfl) ⟨rfl, rfl⟩
      · replace h := cond_f g7 h
        refine G_skip ?_
        refine bk_n ?_
        refine nx_n ?_
        refine G_region ?_
        refine G_ev (ev_move rfl) rfl rfl rfl ?_
        obtain ⟨q8, h⟩ := req_elim h
        refine G_ev (ev_add rfl rfl q8.1 q8.2) rfl rfl rfl ?_
        refine G_ev (ev_assign rfl) rfl rfl rfl ?_
        refine G_nil ?_
        refine nx_n ?_
        exact ⟨m3, _, _, Nat.lt_succ_self _, ⟨p4 + 1, h, rfl, rfl⟩, sub_cons rfl (sub_cons rfl (sub_cons rfl (sub_cons rfl sub_nil))), cv_sel [0] 1 rfl rfl⟩
    · replace h := cond_f g5 h
      refine G_exit ?_
      refine nx_e ?_
      refine nx_e ?_
      refine bk_x ?_
      refine nx_n ?_
      exact ⟨_, _, ⟨h, rfl, rfl⟩, sub_cons rfl sub_nil, cv_sel [] 1 rfl rfl⟩
  · rintro _ _ ⟨h, rfl, rfl⟩
    refine G_seq ?_
    refine G_region ?_
    refine G_ev (ev_assign rfl) rfl rfl rfl ?_
    refine G_nil ?_
    refine nx_n ?_
    refine G_ret ?_
    obtain rfl := Option.some.inj h
    exact endG1 rfl rfl (cv_sel [] 0 rfl rfl) ⟨rfl, rfl⟩
theorem pantomimeref21_among_free {r : Bool} : ∀ v post, ((fun (u : Value) (post : List Chunk) => u = .bool r ∧ post = [])) v post → ∀ c ∈ post, Free c := by
  rintro _ _ ⟨rfl, rfl⟩; exact mem_nil
/-! pantomime/pantomimeref21.Right -/
def pantomimeref21_Right_j23 (N : Nat) : Option Bool :=
  some true
def pantomimeref21_Right_l24 (N : Nat) (a1 : (List Int)) (y21 : ((List Int))) : Nat → Int → Option Bool
  | 0, _ => none
  | m24 + 1, p25 => bif decide (p25 < (y21.length : Int)) then ((getE y21 p25).bind fun x27 => (pantomimeref21_among_O N a1 x27).bind fun y28 => bif !y28 then (some false) else (req (in64 (p25 + 1)) ((pantomimeref21_Right_l24 N a1 y21 m24) (p25 + 1)))) else (pantomimeref21_Right_j23 N)
theorem pantomimeref21_Right_l24_s {N m24 : Nat} {a1 : (List Int)} {y21 : ((List Int))} {p25 : Int} : pantomimeref21_Right_l24 N a1 y21 (m24 + 1) p25 = bif decide (p25 < (y21.length : Int)) then ((getE y21 p25).bind fun x27 => (pantomimeref21_among_O N a1 x27).bind fun y28 => bif !y28 then (some false) else (req (in64 (p25 + 1)) ((pantomimeref21_Right_l24 N a1 y21 m24) (p25 + 1)))) else (pantomimeref21_Right_j23 N) := rfl
def pantomimeref21_Right_j5 (N : Nat) (a1 : (List Int)) (a0 : DMemory) : Option Bool :=
  (pantomimeref21_Renew_O N a0).bind fun y21 => pantomimeref21_Right_l24 N a1 y21 N 0
def pantomimeref21_Right_l6 (N : Nat) (a1 : (List Int)) (a0 : DMemory) : Nat → Int → Option Bool
  | 0, _ => none
  | m6 + 1, p7 => bif decide (p7 < (a1.length : Int)) then ((getE a1 p7).bind fun x9 => (pantomimeref21_old_O N x9).bind fun y10 => (bif !y10 then (some true) else ((getE a1 p7).bind fun x12 => req (in64 (x12.tdiv 2)) (some (decide ((a0.Old.length : Int) < x12.tdiv 2))))).bind fun b11 => (bif b11 then (some true) else ((bif decide (0 < p7) then ((getE a1 p7).bind fun x16 => req (in64 (p7 - 1)) ((getE a1 (p7 - 1)).bind fun x18 => some (decide (x16 ≤ x18)))) else (some false)).bind fun b15 => some b15)).bind fun b14 => bif b14 then (some false) else (req (in64 (p7 + 1)) ((pantomimeref21_Right_l6 N a1 a0 m6) (p7 + 1)))) else (pantomimeref21_Right_j5 N a1 a0)
theorem pantomimeref21_Right_l6_s {N m6 : Nat} {a1 : (List Int)} {a0 : DMemory} {p7 : Int} : pantomimeref21_Right_l6 N a1 a0 (m6 + 1) p7 = bif decide (p7 < (a1.length : Int)) then ((getE a1 p7).bind fun x9 => (pantomimeref21_old_O N x9).bind fun y10 => (bif !y10 then (some true) else ((getE a1 p7).bind fun x12 => req (in64 (x12.tdiv 2)) (some (decide ((a0.Old.length : Int) < x12.tdiv 2))))).bind fun b11 => (bif b11 then (some true) else ((bif decide (0 < p7) then ((getE a1 p7).bind fun x16 => req (in64 (p7 - 1)) ((getE a1 (p7 - 1)).bind fun x18 => some (decide (x16 ≤ x18)))) else (some false)).bind fun b15 => some b15)).bind fun b14 => bif b14 then (some false) else (req (in64 (p7 + 1)) ((pantomimeref21_Right_l6 N a1 a0 m6) (p7 + 1)))) else (pantomimeref21_Right_j5 N a1 a0) := rfl
def pantomimeref21_Right_O (N : Nat) (a0 : DMemory) (a1 : (List Int)) : Option Bool :=
  pantomimeref21_Right_l6 N a1 a0 N 0
theorem pantomimeref21_Right_ok {N : Nat} {a0 : DMemory} {a1 : (List Int)} {r : Bool} (h : pantomimeref21_Right_O N a0 a1 = some r) {A1 : Option Addr} {n1 c1 : Nat} {A2 : Option Addr} {n2 c2 : Nat} {A3 : Option Addr} {n3 c3 : Nat} : Okc Try.prog 22 [.agg #[.slice A1 n1 c1, .slice A2 n2 c2], .slice A3 n3 c3] ([slC rDCell (.slice A1 n1 c1) a0.Young, slC rDCell (.slice A2 n2 c2) a0.Old, slC (rInt .i64) (.slice A3 n3 c3) a1]) (fun (u : Value) (post : List Chunk) => u = .bool r ∧ post = []) := by
  refine ok_E Try.func22 rfl rfl ?_
  simp only [envOf]
  refine G_seq ?_
  refine G_region ?_
  refine G_opd (op_box rfl rfl) rfl rfl rfl ?_
  rintro _ _ ⟨B4, rfl, rfl⟩
  refine G_ev (ev_assign rfl) rfl rfl rfl ?_
  refine G_nil ?_
  refine nx_n ?_
  refine G_joinF (fun s L => pantomimeref21_Right_j5 N a1 a0 = some r ∧ s = [(1, .slice A3 n3 c3), (2, .pointer (some ⟨B4, 0, none⟩)), (4, .bool false)] ∧ L = [slC (rInt .i64) (.slice A3 n3 c3) a1, slC rDCell (.slice A1 n1 c1) a0.Young, slC rDCell (.slice A2 n2 c2) a0.Old, boxC B4 42 [.slice A1 n1 c1, .slice A2 n2 c2]]) ?_ ?_
  · refine G_seq ?_
    refine G_region ?_
    refine G_ev (ev_assign rfl) rfl rfl rfl ?_
    refine G_nil ?_
    refine nx_n ?_
    refine G_block ?_
    refine G_loopF (fun m s L => ∃ (p7 : Int), pantomimeref21_Right_l6 N a1 a0 m p7 = some r ∧ s = [(1, .slice A3 n3 c3), (2, .pointer (some ⟨B4, 0, none⟩)), (4, .bool false), (5, .int .i64 p7)] ∧ L = [slC (rInt .i64) (.slice A3 n3 c3) a1, slC rDCell (.slice A1 n1 c1) a0.Young, slC rDCell (.slice A2 n2 c2) a0.Old, boxC B4 42 [.slice A1 n1 c1, .slice A2 n2 c2]]) N _ _ ⟨0, h, rfl, rfl⟩ (sub_cons rfl (sub_cons rfl (sub_cons rfl (sub_cons rfl sub_nil)))) (cv_sel [3, 1, 2, 0] 4 rfl rfl) ?_
    rintro (_ | m6) _ _ ⟨p7, h, rfl, rfl⟩
    · exact none_some h
    rw [pantomimeref21_Right_l6_s] at h
    refine G_seq ?_
    refine G_seq ?_
    refine G_region ?_
    refine G_ev (ev_move rfl) rfl rfl rfl ?_
    refine G_ev (ev_move rfl) rfl rfl rfl ?_
    refine G_rd (rd_len 0 rfl els_sl rfl Try.underlying35) rfl rfl rfl ?_
    refine G_ev (ev_lt rfl rfl) rfl rfl rfl ?_
    refine G_nil ?_
    refine nx_n ?_
    refine G_cond rfl (fun g8 => ?_) (fun g8 => ?_)
    · replace h := cond_t g8 h
      refine G_skip ?_
      refine nx_n ?_
      refine G_seq ?_
      refine G_block ?_
      refine G_seq ?_
      refine G_drawn (by kernel_rfl) _ (cv_refl _) ?_
      refine T3_ev 0 rfl (by kernel_rfl) (ev_move rfl) rfl rfl ?_
      refine T3_ev 1 rfl (by kernel_rfl) (ev_move rfl) rfl rfl ?_
      obtain ⟨x9, hx9, h⟩ := bind_elim h
      obtain ⟨lx9, ux9, hx9⟩ := getE_elim hx9
      refine T3_rd 2 rfl (by kernel_rfl) (rd_idx 0 rfl els_sl rfl rfl Try.underlying35 size3 lx9 ux9) rfl rfl ?_
      refine T3_rd 3 rfl (by kernel_rfl) (rd_elem1 (u := .int .i64 x9) 0 rfl els_sl rfl hx9 one3 (fun _ _ _ h => by rw [show _ = _ from h]; rfl)) rfl rfl ?_
      obtain ⟨y10, hy10, h⟩ := bind_elim h
      refine T3_opd 4 rfl (by kernel_rfl) (op_callR (pantomimeref21_old_ok hy10) call28 rfl (mem_nil) pantomimeref21_old_free) rfl rfl rfl ?_
      rintro _ _ ⟨_, ⟨rfl, rfl⟩, rfl⟩
      refine ⟨_, cv_refl _, cv_refl _, ?_⟩
      refine T3_ev 5 rfl (by kernel_rfl) (ev_not rfl) rfl rfl ?_
      refine T3_ev 6 rfl (by kernel_rfl) (ev_move rfl) rfl rfl ?_
      obtain ⟨b11, hb11, h⟩ := bind_elim h
      refine T3_joinB (fun l => ((((((((((l.setIfInBounds 7 true).setIfInBounds 8 true).setIfInBounds 9 true).setIfInBounds 10 true).setIfInBounds 11 true).setIfInBounds 12 true).setIfInBounds 13 true).setIfInBounds 14 true).setIfInBounds 15 true).setIfInBounds 16 true)) 16 30 b11 (fun rest => ?_) ?_
      · clear h
        refine T3_case 20 rfl (fun g11 => ?_) (fun g11 => ?_)
        · have h := cond_t g11 hb11
          refine T3_no 7 rfl (by kernel_rfl) (g_ft g11 rfl) rfl ?_
          refine T3_no 8 rfl (by kernel_rfl) (g_ft g11 rfl) rfl ?_
          refine T3_no 9 rfl (by kernel_rfl) (g_ft g11 rfl) rfl ?_
          refine T3_no 10 rfl (by kernel_rfl) (g_ft g11 rfl) rfl ?_
          refine T3_no 11 rfl (by kernel_rfl) (g_ft g11 rfl) rfl ?_
          refine T3_no 12 rfl (by kernel_rfl) (g_ft g11 rfl) rfl ?_
          refine T3_no 13 rfl (by kernel_rfl) (g_ft g11 rfl) rfl ?_
          refine T3_no 14 rfl (by kernel_rfl) (g_ft g11 rfl) rfl ?_
          refine T3_no 15 rfl (by kernel_rfl) (g_ft g11 rfl) rfl ?_
          refine T3_ev 16 rfl (by kernel_rfl) (ev_pick_t' g11 rfl rfl) rfl rfl ?_
          obtain rfl := Option.some.inj h
          exact T3_sub rest (sub_cons rfl (sub_skip (sub_skip (sub_skip (sub_skip (sub_skip (sub_skip (sub_skip (sub_skip (sub_skip (sub_skip sub_refl rfl) rfl) rfl) rfl) rfl) rfl) rfl) rfl) rfl) rfl)) (cv_refl _) (cv_refl _)
        · have h := cond_f g11 hb11
          refine T3_ev 7 rfl (by kernel_rfl) (ev_move rfl) (g_ff g11 rfl) rfl ?_
          refine T3_ev 8 rfl (by kernel_rfl) (ev_move rfl) (g_ff g11 rfl) rfl ?_
          obtain ⟨x12, hx12, h⟩ := bind_elim h
          obtain ⟨lx12, ux12, hx12⟩ := getE_elim hx12
          refine T3_rd 9 rfl (by kernel_rfl) (rd_idx 0 rfl els_sl rfl rfl Try.underlying35 size3 lx12 ux12) (g_ff g11 rfl) rfl ?_
          refine T3_rd 10 rfl (by kernel_rfl) (rd_elem1 (u := .int .i64 x12) 0 rfl els_sl rfl hx12 one3 (fun _ _ _ h => by rw [show _ = _ from h]; rfl)) (g_ff g11 rfl) rfl ?_
          obtain ⟨q13, h⟩ := req_elim h
          refine T3_ev 11 rfl (by kernel_rfl) (ev_quo rfl rfl (by decide) q13.1 q13.2) (g_ff g11 rfl) rfl ?_
          refine T3_ev 12 rfl (by kernel_rfl) (ev_fa rfl fa_42_1) (g_ff g11 rfl) rfl ?_
          refine T3_rd 13 rfl (by kernel_rfl) (rd_box1 3 rfl rfl one24 rfl) (g_ff g11 rfl) rfl ?_
          refine T3_rd 14 rfl (by kernel_rfl) (rd_len 2 rfl els_sl rfl Try.underlying24) (g_ff g11 rfl) rfl ?_
          refine T3_ev 15 rfl (by kernel_rfl) (ev_gt rfl rfl) (g_ff g11 rfl) rfl ?_
          refine T3_ev 16 rfl (by kernel_rfl) (ev_pick_f' g11 rfl rfl) rfl rfl ?_
          obtain rfl := Option.some.inj h
          exact T3_sub rest (sub_cons rfl (sub_skip (sub_skip (sub_skip (sub_skip (sub_skip (sub_skip (sub_skip (sub_skip (sub_skip (sub_skip sub_refl rfl) rfl) rfl) rfl) rfl) rfl) rfl) rfl) rfl) rfl)) (cv_refl _) (cv_refl _)
      refine T3_ev 17 rfl (by kernel_rfl) (ev_move rfl) rfl rfl ?_
      obtain ⟨b14, hb14, h⟩ := bind_elim h
      refine T3_joinB (fun l => (((((((((((((((l.setIfInBounds 18 true).setIfInBounds 19 true).setIfInBounds 20 true).setIfInBounds 21 true).setIfInBounds 22 true).setIfInBounds 23 true).setIfInBounds 24 true).setIfInBounds 25 true).setIfInBounds 26 true).setIfInBounds 27 true).setIfInBounds 28 true).setIfInBounds 29 true).setIfInBounds 30 true).setIfInBounds 31 true).setIfInBounds 32 true)) 0 46 b14 (fun rest => ?_) ?_
      · clear h
        refine T3_case 31 rfl (fun g14 => ?_) (fun g14 => ?_)
        · have h := cond_t g14 hb14
          refine T3_no 18 rfl (by kernel_rfl) (g_ft g14 rfl) rfl ?_
          refine T3_no 19 rfl (by kernel_rfl) (g_ft g14 rfl) rfl ?_
          refine T3_no 20 rfl (by kernel_rfl) (g_ft g14 rfl) rfl ?_
          refine T3_no 21 rfl (by kernel_rfl) rfl rfl ?_
          refine T3_no 22 rfl (by kernel_rfl) rfl rfl ?_
          refine T3_no 23 rfl (by kernel_rfl) rfl rfl ?_
          refine T3_no 24 rfl (by kernel_rfl) rfl rfl ?_
          refine T3_no 25 rfl (by kernel_rfl) rfl rfl ?_
          refine T3_no 26 rfl (by kernel_rfl) rfl rfl ?_
          refine T3_no 27 rfl (by kernel_rfl) rfl rfl ?_
          refine T3_no 28 rfl (by kernel_rfl) rfl rfl ?_
          refine T3_no 29 rfl (by kernel_rfl) rfl rfl ?_
          refine T3_no 30 rfl (by kernel_rfl) rfl rfl ?_
          refine T3_no 31 rfl (by kernel_rfl) (g_ft g14 rfl) rfl ?_
          refine T3_ev 32 rfl (by kernel_rfl) (ev_pick_t' g14 rfl rfl) rfl rfl ?_
          obtain rfl := Option.some.inj h
          exact T3_sub rest (sub_cons rfl (sub_skip (sub_skip (sub_skip (sub_skip (sub_skip (sub_skip (sub_skip (sub_skip (sub_skip (sub_skip (sub_skip (sub_skip (sub_skip (sub_skip (sub_skip sub_refl rfl) rfl) rfl) rfl) rfl) rfl) rfl) rfl) rfl) rfl) rfl) rfl) rfl) rfl) rfl)) (cv_refl _) (cv_refl _)
        · have h := cond_f g14 hb14
          refine T3_ev 18 rfl (by kernel_rfl) (ev_move rfl) (g_ff g14 rfl) rfl ?_
          refine T3_ev 19 rfl (by kernel_rfl) (ev_gt rfl rfl) (g_ff g14 rfl) rfl ?_
          refine T3_ev 20 rfl (by kernel_rfl) (ev_move rfl) (g_ff g14 rfl) rfl ?_
          obtain ⟨b15, hb15, h⟩ := bind_elim h
          refine T3_joinB (fun l => (((((((((((l.setIfInBounds 21 true).setIfInBounds 22 true).setIfInBounds 23 true).setIfInBounds 24 true).setIfInBounds 25 true).setIfInBounds 26 true).setIfInBounds 27 true).setIfInBounds 28 true).setIfInBounds 29 true).setIfInBounds 30 true).setIfInBounds 31 true)) 1 45 b15 (fun rest => ?_) ?_
          · clear h
            refine T3_case 34 rfl (fun g15 => ?_) (fun g15 => ?_)
            · have h := cond_t g15 hb15
              refine T3_ev 21 rfl (by kernel_rfl) (ev_move rfl) (g_tt g15 rfl) rfl ?_
              refine T3_ev 22 rfl (by kernel_rfl) (ev_move rfl) (g_tt g15 rfl) rfl ?_
              obtain ⟨x16, hx16, h⟩ := bind_elim h
              obtain ⟨lx16, ux16, hx16⟩ := getE_elim hx16
              refine T3_rd 23 rfl (by kernel_rfl) (rd_idx 0 rfl els_sl rfl rfl Try.underlying35 size3 lx16 ux16) (g_tt g15 rfl) rfl ?_
              refine T3_rd 24 rfl (by kernel_rfl) (rd_elem1 (u := .int .i64 x16) 0 rfl els_sl rfl hx16 one3 (fun _ _ _ h => by rw [show _ = _ from h]; rfl)) (g_tt g15 rfl) rfl ?_
              refine T3_ev 25 rfl (by kernel_rfl) (ev_move rfl) (g_tt g15 rfl) rfl ?_
              refine T3_ev 26 rfl (by kernel_rfl) (ev_move rfl) (g_tt g15 rfl) rfl ?_
              obtain ⟨q17, h⟩ := req_elim h
              refine T3_ev 27 rfl (by kernel_rfl) (ev_sub rfl rfl q17.1 q17.2) (g_tt g15 rfl) rfl ?_
              obtain ⟨x18, hx18, h⟩ := bind_elim h
              obtain ⟨lx18, ux18, hx18⟩ := getE_elim hx18
              refine T3_rd 28 rfl (by kernel_rfl) (rd_idx 0 rfl els_sl rfl rfl Try.underlying35 size3 lx18 ux18) (g_tt g15 rfl) rfl ?_
              refine T3_rd 29 rfl (by kernel_rfl) (rd_elem1 (u := .int .i64 x18) 0 rfl els_sl rfl hx18 one3 (fun _ _ _ h => by rw [show _ = _ from h]; rfl)) (g_tt g15 rfl) rfl ?_
              refine T3_ev 30 rfl (by kernel_rfl) (ev_le rfl rfl) (g_tt g15 rfl) rfl ?_
              refine T3_ev 31 rfl (by kernel_rfl) (ev_pick_t' g15 rfl rfl) (g_ff g14 rfl) rfl ?_
              obtain rfl := Option.some.inj h
              exact T3_sub rest (sub_cons rfl (sub_skip (sub_skip (sub_skip (sub_skip (sub_skip (sub_skip (sub_skip (sub_skip (sub_skip (sub_skip (sub_skip sub_refl rfl) rfl) rfl) rfl) rfl) rfl) rfl) rfl) rfl) rfl) rfl)) (cv_refl _) (cv_refl _)
            · have h := cond_f g15 hb15
              refine T3_no 21 rfl (by kernel_rfl) (g_tf g15 rfl) rfl ?_
              refine T3_no 22 rfl (by kernel_rfl) (g_tf g15 rfl) rfl ?_
              refine T3_no 23 rfl (by kernel_rfl) (g_tf g15 rfl) rfl ?_
              refine T3_no 24 rfl (by kernel_rfl) (g_tf g15 rfl) rfl ?_
              refine T3_no 25 rfl (by kernel_rfl) (g_tf g15 rfl) rfl ?_
              refine T3_no 26 rfl (by kernel_rfl) (g_tf g15 rfl) rfl ?_
              refine T3_no 27 rfl (by kernel_rfl) (g_tf g15 rfl) rfl ?_
              refine T3_no 28 rfl (by kernel_rfl) (g_tf g15 rfl) rfl ?_
              refine T3_no 29 rfl (by kernel_rfl) (g_tf g15 rfl) rfl ?_
              refine T3_no 30 rfl (by kernel_rfl) (g_tf g15 rfl) rfl ?_
              refine T3_ev 31 rfl (by kernel_rfl) (ev_pick_f' g15 rfl rfl) (g_ff g14 rfl) rfl ?_
              obtain rfl := Option.some.inj h
              exact T3_sub rest (sub_cons rfl (sub_skip (sub_skip (sub_skip (sub_skip (sub_skip (sub_skip (sub_skip (sub_skip (sub_skip (sub_skip (sub_skip sub_refl rfl) rfl) rfl) rfl) rfl) rfl) rfl) rfl) rfl) rfl) rfl)) (cv_refl _) (cv_refl _)
          refine T3_ev 32 rfl (by kernel_rfl) (ev_pick_f' g14 rfl rfl) rfl rfl ?_
          obtain rfl := Option.some.inj h
          exact T3_sub rest (sub_cons rfl (sub_skip (sub_skip (sub_skip (sub_skip (sub_skip sub_refl rfl) rfl) rfl) rfl) rfl)) (cv_refl _) (cv_refl _)
      refine T3_done (by kernel_rfl) ?_
      refine nx_n ?_
      refine G_cond rfl (fun g19 => ?_) (fun g19 => ?_)
      · replace h := cond_t g19 h
        refine G_seq ?_
        refine G_region ?_
        refine G_ev (ev_assign rfl) rfl rfl rfl ?_
        refine G_nil ?_
        refine nx_n ?_
        refine G_ret ?_
        refine bk_r ?_
        refine nx_r ?_
        refine nx_r ?_
        refine bk_r ?_
        refine nx_r ?_
        obtain rfl := Option.some.inj h
        exact endG1 rfl rfl (cv_sel [] 4 rfl rfl) ⟨rfl, rfl⟩
      · replace h := cond_f g19 h
        refine G_skip ?_
        refine bk_n ?_
        refine nx_n ?_
        refine G_region ?_
        refine G_ev (ev_move rfl) rfl rfl rfl ?_
        obtain ⟨q20, h⟩ := req_elim h
        refine G_ev (ev_add rfl rfl q20.1 q20.2) rfl rfl rfl ?_
        refine G_ev (ev_assign rfl) rfl rfl rfl ?_
        refine G_nil ?_
        refine nx_n ?_
        exact ⟨m6, _, _, Nat.lt_succ_self _, ⟨p7 + 1, h, rfl, rfl⟩, sub_cons rfl (sub_cons rfl (sub_cons rfl (sub_cons rfl sub_nil))), cv_sel [0, 1, 2, 3] 4 rfl rfl⟩
    · replace h := cond_f g8 h
      refine G_exit ?_
      refine nx_e ?_
      refine nx_e ?_
      refine bk_x ?_
      refine nx_n ?_
      exact ⟨_, _, ⟨h, rfl, rfl⟩, sub_cons rfl (sub_cons rfl (sub_cons rfl sub_nil)), cv_sel [0, 1, 2, 3] 4 rfl rfl⟩
  · rintro _ _ ⟨h, rfl, rfl⟩
    refine G_seq ?_
    refine G_region ?_
    refine G_rd (rd_boxS (us := [.slice A1 n1 c1, .slice A2 n2 c2]) 3 rfl rfl agg42 rfl) rfl rfl rfl ?_
    obtain ⟨y21, hy21, h⟩ := bind_elim h
    refine G_opd (op_callR (pantomimeref21_Renew_ok hy21) call20 rfl (mem_cons (lent_ro (i := 1) rfl rfl) (mem_cons (lent_ro (i := 2) rfl rfl) mem_nil)) pantomimeref21_Renew_free) rfl rfl rfl ?_
    rintro _ _ ⟨_, ⟨A22, n22, c22, rfl, rfl⟩, rfl⟩
    refine G_ev (ev_assign rfl) rfl rfl rfl ?_
    refine G_nil ?_
    refine nx_n ?_
    refine G_joinF (fun s L => pantomimeref21_Right_j23 N = some r ∧ s = [(4, .bool false)] ∧ L = []) ?_ ?_
    · refine G_seq ?_
      refine G_region ?_
      refine G_ev (ev_assign rfl) rfl rfl rfl ?_
      refine G_nil ?_
      refine nx_n ?_
      refine G_block ?_
      refine G_loopF (fun m s L => ∃ (p25 : Int), pantomimeref21_Right_l24 N a1 y21 m p25 = some r ∧ s = [(1, .slice A3 n3 c3), (4, .bool false), (6, .slice A22 n22 c22), (7, .int .i64 p25)] ∧ L = [slC (rInt .i64) (.slice A3 n3 c3) a1, ownC (rInt .i64) 3 (.slice A22 n22 c22) y21]) N _ _ ⟨0, h, rfl, rfl⟩ (sub_cons rfl (sub_cons rfl (sub_cons rfl (sub_cons rfl sub_nil)))) (cv_sel [1, 0] 5 rfl rfl) ?_
      rintro (_ | m24) _ _ ⟨p25, h, rfl, rfl⟩
      · exact none_some h
      rw [pantomimeref21_Right_l24_s] at h
      refine G_seq ?_
      refine G_seq ?_
      refine G_region ?_
      refine G_ev (ev_move rfl) rfl rfl rfl ?_
      refine G_ev (ev_move rfl) rfl rfl rfl ?_
      refine G_rd (rd_len 1 rfl els_own rfl Try.underlying35) rfl rfl rfl ?_
      refine G_ev (ev_lt rfl rfl) rfl rfl rfl ?_
      refine G_nil ?_
      refine nx_n ?_
      refine G_cond rfl (fun g26 => ?_) (fun g26 => ?_)
      · replace h := cond_t g26 h
        refine G_skip ?_
        refine nx_n ?_
        refine G_seq ?_
        refine G_block ?_
        refine G_seq ?_
        refine G_region ?_
        refine G_ev (ev_move rfl) rfl rfl rfl ?_
        refine G_ev (ev_move rfl) rfl rfl rfl ?_
        refine G_ev (ev_move rfl) rfl rfl rfl ?_
        obtain ⟨x27, hx27, h⟩ := bind_elim h
        obtain ⟨lx27, ux27, hx27⟩ := getE_elim hx27
        refine G_rd (rd_idx 1 rfl els_own rfl rfl Try.underlying35 size3 lx27 ux27) rfl rfl rfl ?_
        refine G_rd (rd_elem1 (u := .int .i64 x27) 1 rfl els_own rfl hx27 one3 (fun _ _ _ h => by rw [show _ = _ from h]; rfl)) rfl rfl rfl ?_
        obtain ⟨y28, hy28, h⟩ := bind_elim h
        refine G_opd (op_callR (pantomimeref21_among_ok hy28) call30 rfl (mem_cons (lent_ro (i := 0) rfl rfl) mem_nil) pantomimeref21_among_free) rfl rfl rfl ?_
        rintro _ _ ⟨_, ⟨rfl, rfl⟩, rfl⟩
        refine G_ev (ev_not rfl) rfl rfl rfl ?_
        refine G_nil ?_
        refine nx_n ?_
        refine G_cond rfl (fun g29 => ?_) (fun g29 => ?_)
        · replace h := cond_t g29 h
          refine G_seq ?_
          refine G_region ?_
          refine G_ev (ev_assign rfl) rfl rfl rfl ?_
          refine G_nil ?_
          refine nx_n ?_
          refine G_ret ?_
          refine bk_r ?_
          refine nx_r ?_
          refine nx_r ?_
          refine bk_r ?_
          refine nx_r ?_
          obtain rfl := Option.some.inj h
          exact endG1 rfl rfl (cv_sel [] 2 rfl rfl) ⟨rfl, rfl⟩
        · replace h := cond_f g29 h
          refine G_skip ?_
          refine bk_n ?_
          refine nx_n ?_
          refine G_region ?_
          refine G_ev (ev_move rfl) rfl rfl rfl ?_
          obtain ⟨q30, h⟩ := req_elim h
          refine G_ev (ev_add rfl rfl q30.1 q30.2) rfl rfl rfl ?_
          refine G_ev (ev_assign rfl) rfl rfl rfl ?_
          refine G_nil ?_
          refine nx_n ?_
          exact ⟨m24, _, _, Nat.lt_succ_self _, ⟨p25 + 1, h, rfl, rfl⟩, sub_cons rfl (sub_cons rfl (sub_cons rfl (sub_cons rfl sub_nil))), cv_sel [0, 1] 2 rfl rfl⟩
      · replace h := cond_f g26 h
        refine G_exit ?_
        refine nx_e ?_
        refine nx_e ?_
        refine bk_x ?_
        refine nx_n ?_
        exact ⟨_, _, ⟨h, rfl, rfl⟩, sub_cons rfl sub_nil, cv_sel [] 2 rfl rfl⟩
    · rintro _ _ ⟨h, rfl, rfl⟩
      refine G_seq ?_
      refine G_region ?_
      refine G_ev (ev_assign rfl) rfl rfl rfl ?_
      refine G_nil ?_
      refine nx_n ?_
      refine G_ret ?_
      obtain rfl := Option.some.inj h
      exact endG1 rfl rfl (cv_sel [] 0 rfl rfl) ⟨rfl, rfl⟩
theorem pantomimeref21_Right_free {r : Bool} : ∀ v post, ((fun (u : Value) (post : List Chunk) => u = .bool r ∧ post = [])) v post → ∀ c ∈ post, Free c := by
  rintro _ _ ⟨rfl, rfl⟩; exact mem_nil
/-! pantomime/pantomimelaw21.RemsetRenews -/
def pantomimelaw21_RemsetRenews_O (N : Nat) (a0 : DMemory) (a1 : (List Int)) (a2 : Int) (a3 : DCell) : Option Bool :=
  (pantomimelaw21_few_O N a0.Young).bind fun y8 => (bif !y8 then (some true) else ((pantomimelaw21_few_O N a0.Old).bind fun y10 => some (!y10))).bind fun b9 => (bif b9 then (some true) else ((pantomimelaw21_few_O N ([a3] : List DCell)).bind fun y13 => some (!y13))).bind fun b11 => (bif b11 then (some true) else (some (decide (200 < (a1.length : Int))))).bind fun b14 => bif b14 then ((pantomimelaw21_lives_O N).bind fun y16 => some y16) else ((remset_New_O N).bind fun y17 => (remset_Set_Note_O N y17 a2 a3).bind fun y20 => (remset_Set_Renew_O N y20.2 a0).bind fun y22 => (remset_Set_List_O N y22).bind fun y24 => (pantomimeref21_Renew_O N a0).bind fun y26 => (pantomimeref15_SameInts_O N y24 y26).bind fun y28 => (bif y28 then ((remset_Right_O N a0 a1).bind fun y30 => (pantomimeref21_Right_O N a0 a1).bind fun y31 => some (y30 == y31)) else (some false)).bind fun b29 => (bif b29 then ((remset_Set_List_O N y22).bind fun y33 => (remset_Right_O N a0 y33).bind fun y35 => some y35) else (some false)).bind fun b32 => (bif b32 then ((pantomimelaw21_lives_O N).bind fun y37 => some y37) else (some false)).bind fun b36 => some b36)
theorem pantomimelaw21_RemsetRenews_ok {N : Nat} {a0 : DMemory} {a1 : (List Int)} {a2 : Int} {a3 : DCell} {r : Bool} (h : pantomimelaw21_RemsetRenews_O N a0 a1 a2 a3 = some r) {A1 : Option Addr} {n1 c1 : Nat} {A2 : Option Addr} {n2 c2 : Nat} {A3 : Option Addr} {n3 c3 : Nat} {A4 : Option Addr} {n4 c4 : Nat} {A5 : Option Addr} {n5 c5 : Nat} : Okc Try.prog 6 [.agg #[.slice A1 n1 c1, .slice A2 n2 c2], .slice A3 n3 c3, .int .i64 a2, .agg #[.int .i64 a3.Kind, .int .i64 a3.Shape, .int .i64 a3.Flags, .int .i64 a3.Age, .slice A4 n4 c4, .slice A5 n5 c5]] ([slC rDCell (.slice A1 n1 c1) a0.Young, slC rDCell (.slice A2 n2 c2) a0.Old, slC (rInt .i64) (.slice A3 n3 c3) a1, slC rDValue (.slice A4 n4 c4) a3.Slots, slC rDValue (.slice A5 n5 c5) a3.More]) (fun (u : Value) (post : List Chunk) => u = .bool r ∧ post = []) := by
  refine ok_E Try.func6 rfl rfl ?_
  simp only [envOf]
  refine G_seq ?_
  refine G_region ?_
  refine G_opd (op_box rfl rfl) rfl rfl rfl ?_
  rintro _ _ ⟨B6, rfl, rfl⟩
  refine G_opd (op_box rfl rfl) rfl rfl rfl ?_
  rintro _ _ ⟨B7, rfl, rfl⟩
  refine G_ev (ev_assign rfl) rfl rfl rfl ?_
  refine G_nil ?_
  refine nx_n ?_
  refine G_seq ?_
  refine G_seq ?_
  refine G_region ?_
  refine G_ev (ev_fa0 rfl fa_42_0) rfl rfl rfl ?_
  refine G_rd (rd_box1 1 rfl rfl one24 rfl) rfl rfl rfl ?_
  obtain ⟨y8, hy8, h⟩ := bind_elim h
  refine G_opd (op_callR (pantomimelaw21_few_ok hy8) call10 rfl (mem_cons (lent_ro (i := 2) rfl rfl) mem_nil) pantomimelaw21_few_free) rfl rfl rfl ?_
  rintro _ _ ⟨_, ⟨rfl, rfl⟩, rfl⟩
  refine G_ev (ev_not rfl) rfl rfl rfl ?_
  refine G_ev (ev_move rfl) rfl rfl rfl ?_
  obtain ⟨b9, hb9, h⟩ := bind_elim h
  refine G_segb 5 19 b9 ?_ ?_
  · clear h
    refine G_case 14 rfl (fun g9 => ?_) (fun g9 => ?_)
    · have h := cond_t g9 hb9
      refine G_no (g_ft g9 rfl) rfl ?_
      refine G_no (g_ft g9 rfl) rfl ?_
      refine G_no (g_ft g9 rfl) rfl ?_
      refine G_no (g_ft g9 rfl) rfl ?_
      refine G_ev (ev_pick_t' g9 rfl rfl) rfl rfl rfl ?_
      obtain rfl := Option.some.inj h
      exact G_joined (sub_cons rfl (sub_skip (sub_skip (sub_skip (sub_skip (sub_skip sub_refl rfl) rfl) rfl) rfl) rfl)) (cv_sel [0, 1, 2, 3, 4, 5, 6] 7 rfl rfl)
    · have h := cond_f g9 hb9
      refine G_ev (ev_fa rfl fa_42_1) rfl (g_ff g9 rfl) rfl ?_
      refine G_rd (rd_box1 1 rfl rfl one24 rfl) rfl (g_ff g9 rfl) rfl ?_
      obtain ⟨y10, hy10, h⟩ := bind_elim h
      refine G_opd (op_callR (pantomimelaw21_few_ok hy10) call10 rfl (mem_cons (lent_ro (i := 3) rfl rfl) mem_nil) pantomimelaw21_few_free) rfl (g_ff g9 rfl) rfl ?_
      rintro _ _ ⟨_, ⟨rfl, rfl⟩, rfl⟩
      refine G_ev (ev_not rfl) rfl (g_ff g9 rfl) rfl ?_
      refine G_ev (ev_pick_f' g9 rfl rfl) rfl rfl rfl ?_
      obtain rfl := Option.some.inj h
      exact G_joined (sub_cons rfl (sub_skip (sub_skip (sub_skip (sub_skip (sub_skip sub_refl rfl) rfl) rfl) rfl) rfl)) (cv_sel [0, 1, 2, 3, 4, 5, 6] 7 rfl rfl)
  refine G_ev (ev_move rfl) rfl rfl rfl ?_
  obtain ⟨b11, hb11, h⟩ := bind_elim h
  refine G_segb 5 25 b11 ?_ ?_
  · clear h
    refine G_case 20 rfl (fun g11 => ?_) (fun g11 => ?_)
    · have h := cond_t g11 hb11
      refine G_no (g_ft g11 rfl) rfl ?_
      refine G_no (g_ft g11 rfl) rfl ?_
      refine G_no (g_ft g11 rfl) rfl ?_
      refine G_no (g_ft g11 rfl) rfl ?_
      refine G_ev (ev_pick_t' g11 rfl rfl) rfl rfl rfl ?_
      obtain rfl := Option.some.inj h
      exact G_joined (sub_cons rfl (sub_skip (sub_skip (sub_skip (sub_skip (sub_skip sub_refl rfl) rfl) rfl) rfl) rfl)) (cv_sel [0, 1, 2, 3, 4, 5, 6] 7 rfl rfl)
    · have h := cond_f g11 hb11
      refine G_rd (rd_boxS (us := [.int .i64 a3.Kind, .int .i64 a3.Shape, .int .i64 a3.Flags, .int .i64 a3.Age, .slice A4 n4 c4, .slice A5 n5 c5]) 0 rfl rfl agg27 rfl) rfl (g_ff g11 rfl) rfl ?_
      refine G_opd (op_bslice (R := rDCell) (vss := [[.int .i64 a3.Kind, .int .i64 a3.Shape, .int .i64 a3.Flags, .int .i64 a3.Age, .slice A4 n4 c4, .slice A5 n5 c5]]) (xs := [a3]) rfl (bsl_24_1 _ _ _ _ _ _ _ _ _ _) rfl rfl (fun _ _ hr => .cons (⟨_, _, _, _, _, _, rfl, hr 5 _ rfl rfl, hr 6 _ rfl rfl⟩) All2.nil)) rfl (g_ff g11 rfl) rfl ?_
      rintro _ _ ⟨A12, n12, c12, rfl, rfl⟩
      obtain ⟨y13, hy13, h⟩ := bind_elim h
      refine G_opd (op_callR (pantomimelaw21_few_ok hy13) call10 rfl (mem_cons (lent_own (i := 0) rfl) mem_nil) pantomimelaw21_few_free) rfl (g_ff g11 rfl) rfl ?_
      rintro _ _ ⟨_, ⟨rfl, rfl⟩, rfl⟩
      refine G_ev (ev_not rfl) rfl (g_ff g11 rfl) rfl ?_
      refine G_ev (ev_pick_f' g11 rfl rfl) rfl rfl rfl ?_
      obtain rfl := Option.some.inj h
      exact G_joined (sub_cons rfl (sub_skip (sub_skip (sub_skip (sub_skip (sub_skip sub_refl rfl) rfl) rfl) rfl) rfl)) (cv_sel [1, 2, 3, 4, 5, 6, 7] 8 rfl rfl)
  refine G_ev (ev_move rfl) rfl rfl rfl ?_
  obtain ⟨b14, hb14, h⟩ := bind_elim h
  refine G_segb 4 30 b14 ?_ ?_
  · clear h
    refine G_case 26 rfl (fun g14 => ?_) (fun g14 => ?_)
    · have h := cond_t g14 hb14
      refine G_no (g_ft g14 rfl) rfl ?_
      refine G_no (g_ft g14 rfl) rfl ?_
      refine G_no (g_ft g14 rfl) rfl ?_
      refine G_ev (ev_pick_t' g14 rfl rfl) rfl rfl rfl ?_
      obtain rfl := Option.some.inj h
      exact G_joined (sub_cons rfl (sub_skip (sub_skip (sub_skip (sub_skip sub_refl rfl) rfl) rfl) rfl)) (cv_sel [0, 1, 2, 3, 4, 5, 6] 7 rfl rfl)
    · have h := cond_f g14 hb14
      refine G_ev (ev_move rfl) rfl (g_ff g14 rfl) rfl ?_
      refine G_rd (rd_len 4 rfl els_sl rfl Try.underlying35) rfl (g_ff g14 rfl) rfl ?_
      refine G_ev (ev_gt rfl rfl) rfl (g_ff g14 rfl) rfl ?_
      refine G_ev (ev_pick_f' g14 rfl rfl) rfl rfl rfl ?_
      obtain rfl := Option.some.inj h
      exact G_joined (sub_cons rfl (sub_skip (sub_skip (sub_skip (sub_skip sub_refl rfl) rfl) rfl) rfl)) (cv_sel [0, 1, 2, 3, 4, 5, 6] 7 rfl rfl)
  refine G_nil ?_
  refine nx_n ?_
  refine G_cond rfl (fun g15 => ?_) (fun g15 => ?_)
  · replace h := cond_t g15 h
    refine G_seq ?_
    refine G_region ?_
    obtain ⟨y16, hy16, h⟩ := bind_elim h
    refine G_opd (op_callR (pantomimelaw21_lives_ok hy16) call9 rfl (mem_nil) pantomimelaw21_lives_free) rfl rfl rfl ?_
    rintro _ _ ⟨_, ⟨rfl, rfl⟩, rfl⟩
    refine G_ev (ev_assign rfl) rfl rfl rfl ?_
    refine G_nil ?_
    refine nx_n ?_
    refine G_ret ?_
    refine nx_r ?_
    obtain rfl := Option.some.inj h
    exact endG1 rfl rfl (cv_sel [] 7 rfl rfl) ⟨rfl, rfl⟩
  · replace h := cond_f g15 h
    refine G_skip ?_
    refine nx_n ?_
    refine G_seq ?_
    refine G_region ?_
    obtain ⟨y17, hy17, h⟩ := bind_elim h
    refine G_opd (op_call (remset_New_ok hy17) call11 rfl (cv_take [] [] [0, 1, 2, 3, 4, 5, 6] 7 rfl)) rfl rfl rfl ?_
    rintro _ _ ⟨_, ⟨B18, M19, rfl, rfl⟩, rfl⟩
    refine G_norm ([boxC B18 56 [.map (some M19)], mapC ekI evB M19 y17.at_, boxC B7 27 [.int .i64 a3.Kind, .int .i64 a3.Shape, .int .i64 a3.Flags, .int .i64 a3.Age, .slice A4 n4 c4, .slice A5 n5 c5], boxC B6 42 [.slice A1 n1 c1, .slice A2 n2 c2], slC rDCell (.slice A1 n1 c1) a0.Young, slC rDCell (.slice A2 n2 c2) a0.Old, slC (rInt .i64) (.slice A3 n3 c3) a1, slC rDValue (.slice A4 n4 c4) a3.Slots, slC rDValue (.slice A5 n5 c5) a3.More]) rfl ?_
    refine G_ev (ev_assign rfl) rfl rfl rfl ?_
    refine G_nil ?_
    refine nx_n ?_
    refine G_seq ?_
    refine G_region ?_
    refine G_ev (ev_move rfl) rfl rfl rfl ?_
    refine G_ev (ev_move rfl) rfl rfl rfl ?_
    refine G_rd (rd_boxS (us := [.int .i64 a3.Kind, .int .i64 a3.Shape, .int .i64 a3.Flags, .int .i64 a3.Age, .slice A4 n4 c4, .slice A5 n5 c5]) 2 rfl rfl agg27 rfl) rfl rfl rfl ?_
    obtain ⟨y20, hy20, h⟩ := bind_elim h
    refine G_opd (op_call (remset_Set_Note_ok hy20) call12 rfl (cv_take [7, 8] [0, 1] [2, 3, 4, 5, 6, 7, 8] 9 rfl)) rfl rfl rfl ?_
    rintro _ _ ⟨_, ⟨M21, rfl, rfl⟩, rfl⟩
    refine G_norm ([boxC B18 56 [.map (some M21)], mapC ekI evB M21 y20.2.at_, boxC B7 27 [.int .i64 a3.Kind, .int .i64 a3.Shape, .int .i64 a3.Flags, .int .i64 a3.Age, .slice A4 n4 c4, .slice A5 n5 c5], boxC B6 42 [.slice A1 n1 c1, .slice A2 n2 c2], slC rDCell (.slice A1 n1 c1) a0.Young, slC rDCell (.slice A2 n2 c2) a0.Old, slC (rInt .i64) (.slice A3 n3 c3) a1, slC rDValue (.slice A4 n4 c4) a3.Slots, slC rDValue (.slice A5 n5 c5) a3.More]) rfl ?_
    refine G_nil ?_
    refine nx_n ?_
    refine G_seq ?_
    refine G_region ?_
    refine G_ev (ev_move rfl) rfl rfl rfl ?_
    refine G_rd (rd_boxS (us := [.slice A1 n1 c1, .slice A2 n2 c2]) 3 rfl rfl agg42 rfl) rfl rfl rfl ?_
    obtain ⟨y22, hy22, h⟩ := bind_elim h
    refine G_opd (op_call (remset_Set_Renew_ok hy22) call18 rfl (cv_take [4, 5] [0, 1] [2, 3, 4, 5, 6, 7, 8] 9 rfl)) rfl rfl rfl ?_
    rintro _ _ ⟨_, ⟨M23, rfl, rfl⟩, rfl⟩
    refine G_norm ([boxC B18 56 [.map (some M23)], mapC ekI evB M23 y22.at_, boxC B7 27 [.int .i64 a3.Kind, .int .i64 a3.Shape, .int .i64 a3.Flags, .int .i64 a3.Age, .slice A4 n4 c4, .slice A5 n5 c5], boxC B6 42 [.slice A1 n1 c1, .slice A2 n2 c2], slC rDCell (.slice A1 n1 c1) a0.Young, slC rDCell (.slice A2 n2 c2) a0.Old, slC (rInt .i64) (.slice A3 n3 c3) a1, slC rDValue (.slice A4 n4 c4) a3.Slots, slC rDValue (.slice A5 n5 c5) a3.More]) rfl ?_
    refine G_nil ?_
    refine nx_n ?_
    refine G_seq ?_
    refine G_drawn (by kernel_rfl) _ (cv_refl _) ?_
    refine T3_ev 0 rfl (by kernel_rfl) (ev_move rfl) rfl rfl ?_
    refine T3_rd 2 rfl (by kernel_rfl) (rd_boxS (us := [.slice A1 n1 c1, .slice A2 n2 c2]) 3 rfl rfl agg42 rfl) rfl rfl ?_
    obtain ⟨y24, hy24, h⟩ := bind_elim h
    refine T3_opd 1 rfl (by kernel_rfl) (op_callR (remset_Set_List_ok hy24) call14 rfl (mem_cons (lent_box (i := 0) rfl) (mem_cons (lent_map (i := 1) rfl) mem_nil)) remset_Set_List_free) rfl rfl rfl ?_
    rintro _ _ ⟨_, ⟨A25, n25, c25, rfl, rfl⟩, rfl⟩
    refine ⟨[boxC B18 56 [.map (some M23)], mapC ekI evB M23 y22.at_, boxC B7 27 [.int .i64 a3.Kind, .int .i64 a3.Shape, .int .i64 a3.Flags, .int .i64 a3.Age, .slice A4 n4 c4, .slice A5 n5 c5], boxC B6 42 [.slice A1 n1 c1, .slice A2 n2 c2], slC rDCell (.slice A1 n1 c1) a0.Young, slC rDCell (.slice A2 n2 c2) a0.Old, slC (rInt .i64) (.slice A3 n3 c3) a1, slC rDValue (.slice A4 n4 c4) a3.Slots, slC rDValue (.slice A5 n5 c5) a3.More], cv_sel [1, 2, 3, 4, 5, 6, 7, 8, 9] 10 rfl rfl, cv_refl _, ?_⟩
    obtain ⟨y26, hy26, h⟩ := bind_elim h
    refine T3_opd 3 rfl (by kernel_rfl) (op_callR (pantomimeref21_Renew_ok hy26) call20 rfl (mem_cons (lent_ro (i := 5) rfl rfl) (mem_cons (lent_ro (i := 6) rfl rfl) mem_nil)) pantomimeref21_Renew_free) rfl rfl rfl ?_
    rintro _ _ ⟨_, ⟨A27, n27, c27, rfl, rfl⟩, rfl⟩
    refine ⟨[boxC B18 56 [.map (some M23)], mapC ekI evB M23 y22.at_, boxC B7 27 [.int .i64 a3.Kind, .int .i64 a3.Shape, .int .i64 a3.Flags, .int .i64 a3.Age, .slice A4 n4 c4, .slice A5 n5 c5], boxC B6 42 [.slice A1 n1 c1, .slice A2 n2 c2], slC rDCell (.slice A1 n1 c1) a0.Young, slC rDCell (.slice A2 n2 c2) a0.Old, slC (rInt .i64) (.slice A3 n3 c3) a1, slC rDValue (.slice A4 n4 c4) a3.Slots, slC rDValue (.slice A5 n5 c5) a3.More], cv_sel [2, 3, 4, 5, 6, 7, 8, 9, 10] 11 rfl rfl, cv_refl _, ?_⟩
    obtain ⟨y28, hy28, h⟩ := bind_elim h
    refine T3_opd 4 rfl (by kernel_rfl) (op_callR (pantomimeref15_SameInts_ok hy28) call13 rfl (mem_cons (lent_own (i := 1) rfl) (mem_cons (lent_own (i := 0) rfl) mem_nil)) pantomimeref15_SameInts_free) rfl rfl rfl ?_
    rintro _ _ ⟨_, ⟨rfl, rfl⟩, rfl⟩
    refine ⟨[boxC B18 56 [.map (some M23)], mapC ekI evB M23 y22.at_, boxC B7 27 [.int .i64 a3.Kind, .int .i64 a3.Shape, .int .i64 a3.Flags, .int .i64 a3.Age, .slice A4 n4 c4, .slice A5 n5 c5], boxC B6 42 [.slice A1 n1 c1, .slice A2 n2 c2], slC rDCell (.slice A1 n1 c1) a0.Young, slC rDCell (.slice A2 n2 c2) a0.Old, slC (rInt .i64) (.slice A3 n3 c3) a1, slC rDValue (.slice A4 n4 c4) a3.Slots, slC rDValue (.slice A5 n5 c5) a3.More], cv_sel [2, 3, 4, 5, 6, 7, 8, 9, 10] 11 rfl rfl, cv_refl _, ?_⟩
    refine T3_ev 5 rfl (by kernel_rfl) (ev_move rfl) rfl rfl ?_
    obtain ⟨b29, hb29, h⟩ := bind_elim h
    refine T3_joinB (fun l => ((((((((l.setIfInBounds 6 true).setIfInBounds 7 true).setIfInBounds 9 true).setIfInBounds 10 true).setIfInBounds 8 true).setIfInBounds 11 true).setIfInBounds 12 true).setIfInBounds 13 true)) 10 53 b29 (fun rest => ?_) ?_
    · clear h
      refine T3_case 45 rfl (fun g29 => ?_) (fun g29 => ?_)
      · have h := cond_t g29 hb29
        refine T3_rd 6 rfl (by kernel_rfl) (rd_boxS (us := [.slice A1 n1 c1, .slice A2 n2 c2]) 3 rfl rfl agg42 rfl) (g_tt g29 rfl) rfl ?_
        refine T3_ev 7 rfl (by kernel_rfl) (ev_move rfl) (g_tt g29 rfl) rfl ?_
        refine T3_rd 9 rfl (by kernel_rfl) (rd_boxS (us := [.slice A1 n1 c1, .slice A2 n2 c2]) 3 rfl rfl agg42 rfl) (g_tt g29 rfl) rfl ?_
        refine T3_ev 10 rfl (by kernel_rfl) (ev_move rfl) (g_tt g29 rfl) rfl ?_
        obtain ⟨y30, hy30, h⟩ := bind_elim h
        refine T3_opd 8 rfl (by kernel_rfl) (op_callR (remset_Right_ok hy30) call21 rfl (mem_cons (lent_ro (i := 6) rfl rfl) (mem_cons (lent_ro (i := 7) rfl rfl) (mem_cons (lent_ro (i := 8) rfl rfl) mem_nil))) remset_Right_free) rfl (g_tt g29 rfl) rfl ?_
        rintro _ _ ⟨_, ⟨rfl, rfl⟩, rfl⟩
        refine ⟨[boxC B18 56 [.map (some M23)], mapC ekI evB M23 y22.at_, boxC B7 27 [.int .i64 a3.Kind, .int .i64 a3.Shape, .int .i64 a3.Flags, .int .i64 a3.Age, .slice A4 n4 c4, .slice A5 n5 c5], boxC B6 42 [.slice A1 n1 c1, .slice A2 n2 c2], slC rDCell (.slice A1 n1 c1) a0.Young, slC rDCell (.slice A2 n2 c2) a0.Old, slC (rInt .i64) (.slice A3 n3 c3) a1, slC rDValue (.slice A4 n4 c4) a3.Slots, slC rDValue (.slice A5 n5 c5) a3.More], cv_sel [2, 3, 4, 5, 6, 7, 8, 9, 10] 11 rfl rfl, cv_refl _, ?_⟩
        obtain ⟨y31, hy31, h⟩ := bind_elim h
        refine T3_opd 11 rfl (by kernel_rfl) (op_callR (pantomimeref21_Right_ok hy31) call22 rfl (mem_cons (lent_ro (i := 6) rfl rfl) (mem_cons (lent_ro (i := 7) rfl rfl) (mem_cons (lent_ro (i := 8) rfl rfl) mem_nil))) pantomimeref21_Right_free) rfl (g_tt g29 rfl) rfl ?_
        rintro _ _ ⟨_, ⟨rfl, rfl⟩, rfl⟩
        refine ⟨[boxC B18 56 [.map (some M23)], mapC ekI evB M23 y22.at_, boxC B7 27 [.int .i64 a3.Kind, .int .i64 a3.Shape, .int .i64 a3.Flags, .int .i64 a3.Age, .slice A4 n4 c4, .slice A5 n5 c5], boxC B6 42 [.slice A1 n1 c1, .slice A2 n2 c2], slC rDCell (.slice A1 n1 c1) a0.Young, slC rDCell (.slice A2 n2 c2) a0.Old, slC (rInt .i64) (.slice A3 n3 c3) a1, slC rDValue (.slice A4 n4 c4) a3.Slots, slC rDValue (.slice A5 n5 c5) a3.More], cv_sel [2, 3, 4, 5, 6, 7, 8, 9, 10] 11 rfl rfl, cv_refl _, ?_⟩
        refine T3_ev 12 rfl (by kernel_rfl) (ev_beq rfl rfl Try.underlying4) (g_tt g29 rfl) rfl ?_
        refine T3_ev 13 rfl (by kernel_rfl) (ev_pick_t' g29 rfl rfl) rfl rfl ?_
        obtain rfl := Option.some.inj h
        exact T3_sub rest (sub_cons rfl (sub_skip (sub_skip (sub_skip (sub_skip (sub_skip (sub_skip (sub_skip (sub_skip sub_refl rfl) rfl) rfl) rfl) rfl) rfl) rfl) rfl)) (cv_refl _) (cv_sel [2, 3, 4, 5, 6, 7, 8, 9, 10] 11 rfl rfl)
      · have h := cond_f g29 hb29
        refine T3_no 6 rfl (by kernel_rfl) (g_tf g29 rfl) rfl ?_
        refine T3_no 7 rfl (by kernel_rfl) (g_tf g29 rfl) rfl ?_
        refine T3_no 9 rfl (by kernel_rfl) (g_tf g29 rfl) rfl ?_
        refine T3_no 10 rfl (by kernel_rfl) (g_tf g29 rfl) rfl ?_
        refine T3_no 8 rfl (by kernel_rfl) (g_tf g29 rfl) rfl ?_
        refine T3_no 11 rfl (by kernel_rfl) (g_tf g29 rfl) rfl ?_
        refine T3_no 12 rfl (by kernel_rfl) (g_tf g29 rfl) rfl ?_
        refine T3_ev 13 rfl (by kernel_rfl) (ev_pick_f' g29 rfl rfl) rfl rfl ?_
        obtain rfl := Option.some.inj h
        exact T3_sub rest (sub_cons rfl (sub_skip (sub_skip (sub_skip (sub_skip (sub_skip (sub_skip (sub_skip (sub_skip sub_refl rfl) rfl) rfl) rfl) rfl) rfl) rfl) rfl)) (cv_refl _) (cv_sel [2, 3, 4, 5, 6, 7, 8, 9, 10] 11 rfl rfl)
    refine T3_ev 14 rfl (by kernel_rfl) (ev_move rfl) rfl rfl ?_
    obtain ⟨b32, hb32, h⟩ := bind_elim h
    refine T3_joinB (fun l => (((((l.setIfInBounds 15 true).setIfInBounds 16 true).setIfInBounds 17 true).setIfInBounds 18 true).setIfInBounds 19 true)) 4 59 b32 (fun rest => ?_) ?_
    · clear h
      refine T3_case 54 rfl (fun g32 => ?_) (fun g32 => ?_)
      · have h := cond_t g32 hb32
        refine T3_rd 15 rfl (by kernel_rfl) (rd_boxS (us := [.slice A1 n1 c1, .slice A2 n2 c2]) 3 rfl rfl agg42 rfl) (g_tt g32 rfl) rfl ?_
        refine T3_ev 16 rfl (by kernel_rfl) (ev_move rfl) (g_tt g32 rfl) rfl ?_
        obtain ⟨y33, hy33, h⟩ := bind_elim h
        refine T3_opd 17 rfl (by kernel_rfl) (op_callR (remset_Set_List_ok hy33) call14 rfl (mem_cons (lent_box (i := 2) rfl) (mem_cons (lent_map (i := 3) rfl) mem_nil)) remset_Set_List_free) rfl (g_tt g32 rfl) rfl ?_
        rintro _ _ ⟨_, ⟨A34, n34, c34, rfl, rfl⟩, rfl⟩
        refine ⟨[boxC B18 56 [.map (some M23)], mapC ekI evB M23 y22.at_, boxC B7 27 [.int .i64 a3.Kind, .int .i64 a3.Shape, .int .i64 a3.Flags, .int .i64 a3.Age, .slice A4 n4 c4, .slice A5 n5 c5], boxC B6 42 [.slice A1 n1 c1, .slice A2 n2 c2], slC rDCell (.slice A1 n1 c1) a0.Young, slC rDCell (.slice A2 n2 c2) a0.Old, slC (rInt .i64) (.slice A3 n3 c3) a1, slC rDValue (.slice A4 n4 c4) a3.Slots, slC rDValue (.slice A5 n5 c5) a3.More], cv_sel [3, 4, 5, 6, 7, 8, 9, 10, 11] 12 rfl rfl, cv_refl _, ?_⟩
        obtain ⟨y35, hy35, h⟩ := bind_elim h
        refine T3_opd 18 rfl (by kernel_rfl) (op_callR (remset_Right_ok hy35) call21 rfl (mem_cons (lent_ro (i := 7) rfl rfl) (mem_cons (lent_ro (i := 8) rfl rfl) (mem_cons (lent_own (i := 0) rfl) mem_nil))) remset_Right_free) rfl (g_tt g32 rfl) rfl ?_
        rintro _ _ ⟨_, ⟨rfl, rfl⟩, rfl⟩
        refine ⟨[boxC B18 56 [.map (some M23)], mapC ekI evB M23 y22.at_, boxC B7 27 [.int .i64 a3.Kind, .int .i64 a3.Shape, .int .i64 a3.Flags, .int .i64 a3.Age, .slice A4 n4 c4, .slice A5 n5 c5], boxC B6 42 [.slice A1 n1 c1, .slice A2 n2 c2], slC rDCell (.slice A1 n1 c1) a0.Young, slC rDCell (.slice A2 n2 c2) a0.Old, slC (rInt .i64) (.slice A3 n3 c3) a1, slC rDValue (.slice A4 n4 c4) a3.Slots, slC rDValue (.slice A5 n5 c5) a3.More], cv_sel [3, 4, 5, 6, 7, 8, 9, 10, 11] 12 rfl rfl, cv_refl _, ?_⟩
        refine T3_ev 19 rfl (by kernel_rfl) (ev_pick_t' g32 rfl rfl) rfl rfl ?_
        obtain rfl := Option.some.inj h
        exact T3_sub rest (sub_cons rfl (sub_skip (sub_skip (sub_skip (sub_skip (sub_skip sub_refl rfl) rfl) rfl) rfl) rfl)) (cv_sel [1, 2, 3, 4, 5, 6, 7, 8, 9, 10, 11] 12 rfl rfl) (cv_sel [2, 3, 4, 5, 6, 7, 8, 9, 10] 11 rfl rfl)
      · have h := cond_f g32 hb32
        refine T3_no 15 rfl (by kernel_rfl) (g_tf g32 rfl) rfl ?_
        refine T3_no 16 rfl (by kernel_rfl) (g_tf g32 rfl) rfl ?_
        refine T3_no 17 rfl (by kernel_rfl) (g_tf g32 rfl) rfl ?_
        refine T3_no 18 rfl (by kernel_rfl) (g_tf g32 rfl) rfl ?_
        refine T3_ev 19 rfl (by kernel_rfl) (ev_pick_f' g32 rfl rfl) rfl rfl ?_
        obtain rfl := Option.some.inj h
        exact T3_sub rest (sub_cons rfl (sub_skip (sub_skip (sub_skip (sub_skip (sub_skip sub_refl rfl) rfl) rfl) rfl) rfl)) (cv_refl _) (cv_sel [2, 3, 4, 5, 6, 7, 8, 9, 10] 11 rfl rfl)
    refine T3_ev 20 rfl (by kernel_rfl) (ev_move rfl) rfl rfl ?_
    obtain ⟨b36, hb36, h⟩ := bind_elim h
    refine T3_joinB (fun l => ((l.setIfInBounds 21 true).setIfInBounds 22 true)) 1 62 b36 (fun rest => ?_) ?_
    · clear h
      refine T3_case 60 rfl (fun g36 => ?_) (fun g36 => ?_)
      · have h := cond_t g36 hb36
        obtain ⟨y37, hy37, h⟩ := bind_elim h
        refine T3_opd 21 rfl (by kernel_rfl) (op_callR (pantomimelaw21_lives_ok hy37) call9 rfl (mem_nil) pantomimelaw21_lives_free) rfl (g_tt g36 rfl) rfl ?_
        rintro _ _ ⟨_, ⟨rfl, rfl⟩, rfl⟩
        refine ⟨[boxC B18 56 [.map (some M23)], mapC ekI evB M23 y22.at_, boxC B7 27 [.int .i64 a3.Kind, .int .i64 a3.Shape, .int .i64 a3.Flags, .int .i64 a3.Age, .slice A4 n4 c4, .slice A5 n5 c5], boxC B6 42 [.slice A1 n1 c1, .slice A2 n2 c2], slC rDCell (.slice A1 n1 c1) a0.Young, slC rDCell (.slice A2 n2 c2) a0.Old, slC (rInt .i64) (.slice A3 n3 c3) a1, slC rDValue (.slice A4 n4 c4) a3.Slots, slC rDValue (.slice A5 n5 c5) a3.More], cv_sel [2, 3, 4, 5, 6, 7, 8, 9, 10] 11 rfl rfl, cv_refl _, ?_⟩
        refine T3_ev 22 rfl (by kernel_rfl) (ev_pick_t' g36 rfl rfl) rfl rfl ?_
        obtain rfl := Option.some.inj h
        exact T3_sub rest (sub_cons rfl (sub_skip (sub_skip sub_refl rfl) rfl)) (cv_refl _) (cv_sel [2, 3, 4, 5, 6, 7, 8, 9, 10] 11 rfl rfl)
      · have h := cond_f g36 hb36
        refine T3_no 21 rfl (by kernel_rfl) (g_tf g36 rfl) rfl ?_
        refine T3_ev 22 rfl (by kernel_rfl) (ev_pick_f' g36 rfl rfl) rfl rfl ?_
        obtain rfl := Option.some.inj h
        exact T3_sub rest (sub_cons rfl (sub_skip (sub_skip sub_refl rfl) rfl)) (cv_refl _) (cv_sel [2, 3, 4, 5, 6, 7, 8, 9, 10] 11 rfl rfl)
    refine T3_ev 23 rfl (by kernel_rfl) (ev_assign rfl) rfl rfl ?_
    refine T3_done (by kernel_rfl) ?_
    refine nx_n ?_
    refine G_ret ?_
    obtain rfl := Option.some.inj h
    exact endG1 rfl rfl (cv_sel [] 11 rfl rfl) ⟨rfl, rfl⟩
theorem pantomimelaw21_RemsetRenews_free {r : Bool} : ∀ v post, ((fun (u : Value) (post : List Chunk) => u = .bool r ∧ post = [])) v post → ∀ c ∈ post, Free c := by
  rintro _ _ ⟨rfl, rfl⟩; exact mem_nil
/-! pantomime/pantomimelaw21.RemsetKeeps -/
def pantomimelaw21_RemsetKeeps_j15 (N : Nat) (a1 : Int) (a0 : DMemory) (y12 : (DSet)) (p16 : (List (Int × Bool))) : Option Bool :=
  (remset_Set_Renew_O N y12 a0).bind fun y36 => (remset_Set_List_O N (⟨p16⟩ : DSet)).bind fun y38 => (remset_Set_List_O N y36).bind fun y40 => (pantomimeref15_SameInts_O N y38 y40).bind fun y42 => (bif !y42 then (some true) else (some (decide ((y38.length : Int) = 0)))).bind fun b43 => bif b43 then ((remset_Set_List_O N y36).bind fun y45 => (pantomimeref15_SameInts_O N y38 y45).bind fun y47 => (bif y47 then ((pantomimelaw21_lives_O N).bind fun y49 => some y49) else (some false)).bind fun b48 => some b48) else (req ((y38.length : Int) ≠ 0) (req (in64 ((a1.tmod (y38.length : Int)) + (y38.length : Int))) (req ((y38.length : Int) ≠ 0) (req (0 ≤ ((a1.tmod (y38.length : Int)) + (y38.length : Int)).tmod (y38.length : Int) ∧ 0 ≤ (((a1.tmod (y38.length : Int)) + (y38.length : Int)).tmod (y38.length : Int)).toNat ∧ (((a1.tmod (y38.length : Int)) + (y38.length : Int)).tmod (y38.length : Int)).toNat ≤ y38.length) (req (in64 ((((a1.tmod (y38.length : Int)) + (y38.length : Int)).tmod (y38.length : Int)) + 1)) (req (0 ≤ (((a1.tmod (y38.length : Int)) + (y38.length : Int)).tmod (y38.length : Int)) + 1 ∧ ((((a1.tmod (y38.length : Int)) + (y38.length : Int)).tmod (y38.length : Int)) + 1).toNat ≤ y38.length ∧ y38.length ≤ y38.length) (req (fitsL (([] : List Int).length + ((y38.drop 0).take ((((a1.tmod (y38.length : Int)) + (y38.length : Int)).tmod (y38.length : Int)).toNat - 0)).length)) (req (fitsL ((([] : List Int) ++ ((y38.drop 0).take ((((a1.tmod (y38.length : Int)) + (y38.length : Int)).tmod (y38.length : Int)).toNat - 0))).length + ((y38.drop (((((a1.tmod (y38.length : Int)) + (y38.length : Int)).tmod (y38.length : Int)) + 1).toNat)).take (y38.length - ((((a1.tmod (y38.length : Int)) + (y38.length : Int)).tmod (y38.length : Int)) + 1).toNat)).length)) ((remset_Right_O N a0 ((([] : List Int) ++ ((y38.drop 0).take ((((a1.tmod (y38.length : Int)) + (y38.length : Int)).tmod (y38.length : Int)).toNat - 0))) ++ ((y38.drop (((((a1.tmod (y38.length : Int)) + (y38.length : Int)).tmod (y38.length : Int)) + 1).toNat)).take (y38.length - ((((a1.tmod (y38.length : Int)) + (y38.length : Int)).tmod (y38.length : Int)) + 1).toNat)))).bind fun y63 => (bif !y63 then ((remset_Right_O N a0 y38).bind fun y65 => some y65) else (some false)).bind fun b64 => (bif b64 then ((pantomimelaw21_lives_O N).bind fun y67 => some y67) else (some false)).bind fun b66 => some b66)))))))))
def pantomimelaw21_RemsetKeeps_l17 (N : Nat) (a1 : Int) (a0 : DMemory) (y12 : (DSet)) : Nat → Int → (List (Int × Bool)) → Option Bool
  | 0, _, _ => none
  | m17 + 1, p18, p19 => bif decide (p18 < (a0.Old.length : Int)) then (req (in64 (2 * p18)) (req (in64 ((2 * p18) + 2)) ((getE a0.Old p18).bind fun x23 => (getE a0.Old p18).bind fun x27 => (remset_Set_Note_O N (⟨p19⟩ : DSet) ((2 * p18) + 2) x23).bind fun y31 => (pantomimeref21_Young_O N x27).bind fun y33 => bif !(y31.1 == y33) then (some false) else (req (in64 (p18 + 1)) ((pantomimelaw21_RemsetKeeps_l17 N a1 a0 y12 m17) (p18 + 1) y31.2.at_))))) else (pantomimelaw21_RemsetKeeps_j15 N a1 a0 y12 p19)
theorem pantomimelaw21_RemsetKeeps_l17_s {N m17 : Nat} {a1 : Int} {a0 : DMemory} {y12 : (DSet)} {p18 : Int} {p19 : (List (Int × Bool))} : pantomimelaw21_RemsetKeeps_l17 N a1 a0 y12 (m17 + 1) p18 p19 = bif decide (p18 < (a0.Old.length : Int)) then (req (in64 (2 * p18)) (req (in64 ((2 * p18) + 2)) ((getE a0.Old p18).bind fun x23 => (getE a0.Old p18).bind fun x27 => (remset_Set_Note_O N (⟨p19⟩ : DSet) ((2 * p18) + 2) x23).bind fun y31 => (pantomimeref21_Young_O N x27).bind fun y33 => bif !(y31.1 == y33) then (some false) else (req (in64 (p18 + 1)) ((pantomimelaw21_RemsetKeeps_l17 N a1 a0 y12 m17) (p18 + 1) y31.2.at_))))) else (pantomimelaw21_RemsetKeeps_j15 N a1 a0 y12 p19) := rfl
def pantomimelaw21_RemsetKeeps_O (N : Nat) (a0 : DMemory) (a1 : Int) : Option Bool :=
  (pantomimelaw21_few_O N a0.Young).bind fun y4 => (bif !y4 then (some true) else ((pantomimelaw21_few_O N a0.Old).bind fun y6 => some (!y6))).bind fun b5 => bif b5 then ((pantomimelaw21_lives_O N).bind fun y8 => some y8) else ((remset_New_O N).bind fun y9 => (remset_New_O N).bind fun y12 => pantomimelaw21_RemsetKeeps_l17 N a1 a0 y12 N 0 y9.at_)
theorem pantomimelaw21_RemsetKeeps_ok {N : Nat} {a0 : DMemory} {a1 : Int} {r : Bool} (h : pantomimelaw21_RemsetKeeps_O N a0 a1 = some r) {A1 : Option Addr} {n1 c1 : Nat} {A2 : Option Addr} {n2 c2 : Nat} : Okc Try.prog 7 [.agg #[.slice A1 n1 c1, .slice A2 n2 c2], .int .i64 a1] ([slC rDCell (.slice A1 n1 c1) a0.Young, slC rDCell (.slice A2 n2 c2) a0.Old]) (fun (u : Value) (post : List Chunk) => u = .bool r ∧ post = []) := by
  refine ok_E Try.func7 rfl rfl ?_
  simp only [envOf]
  refine G_seq ?_
  refine G_region ?_
  refine G_opd (op_box rfl rfl) rfl rfl rfl ?_
  rintro _ _ ⟨B3, rfl, rfl⟩
  refine G_ev (ev_assign rfl) rfl rfl rfl ?_
  refine G_nil ?_
  refine nx_n ?_
  refine G_seq ?_
  refine G_seq ?_
  refine G_region ?_
  refine G_ev (ev_fa0 rfl fa_42_0) rfl rfl rfl ?_
  refine G_rd (rd_box1 0 rfl rfl one24 rfl) rfl rfl rfl ?_
  obtain ⟨y4, hy4, h⟩ := bind_elim h
  refine G_opd (op_callR (pantomimelaw21_few_ok hy4) call10 rfl (mem_cons (lent_ro (i := 1) rfl rfl) mem_nil) pantomimelaw21_few_free) rfl rfl rfl ?_
  rintro _ _ ⟨_, ⟨rfl, rfl⟩, rfl⟩
  refine G_ev (ev_not rfl) rfl rfl rfl ?_
  refine G_ev (ev_move rfl) rfl rfl rfl ?_
  obtain ⟨b5, hb5, h⟩ := bind_elim h
  refine G_segb 5 20 b5 ?_ ?_
  · clear h
    refine G_case 15 rfl (fun g5 => ?_) (fun g5 => ?_)
    · have h := cond_t g5 hb5
      refine G_no (g_ft g5 rfl) rfl ?_
      refine G_no (g_ft g5 rfl) rfl ?_
      refine G_no (g_ft g5 rfl) rfl ?_
      refine G_no (g_ft g5 rfl) rfl ?_
      refine G_ev (ev_pick_t' g5 rfl rfl) rfl rfl rfl ?_
      obtain rfl := Option.some.inj h
      exact G_joined (sub_cons rfl (sub_skip (sub_skip (sub_skip (sub_skip (sub_skip sub_refl rfl) rfl) rfl) rfl) rfl)) (cv_sel [0, 1, 2] 3 rfl rfl)
    · have h := cond_f g5 hb5
      refine G_ev (ev_fa rfl fa_42_1) rfl (g_ff g5 rfl) rfl ?_
      refine G_rd (rd_box1 0 rfl rfl one24 rfl) rfl (g_ff g5 rfl) rfl ?_
      obtain ⟨y6, hy6, h⟩ := bind_elim h
      refine G_opd (op_callR (pantomimelaw21_few_ok hy6) call10 rfl (mem_cons (lent_ro (i := 2) rfl rfl) mem_nil) pantomimelaw21_few_free) rfl (g_ff g5 rfl) rfl ?_
      rintro _ _ ⟨_, ⟨rfl, rfl⟩, rfl⟩
      refine G_ev (ev_not rfl) rfl (g_ff g5 rfl) rfl ?_
      refine G_ev (ev_pick_f' g5 rfl rfl) rfl rfl rfl ?_
      obtain rfl := Option.some.inj h
      exact G_joined (sub_cons rfl (sub_skip (sub_skip (sub_skip (sub_skip (sub_skip sub_refl rfl) rfl) rfl) rfl) rfl)) (cv_sel [0, 1, 2] 3 rfl rfl)
  refine G_nil ?_
  refine nx_n ?_
  refine G_cond rfl (fun g7 => ?_) (fun g7 => ?_)
  · replace h := cond_t g7 h
    refine G_seq ?_
    refine G_region ?_
    obtain ⟨y8, hy8, h⟩ := bind_elim h
    refine G_opd (op_callR (pantomimelaw21_lives_ok hy8) call9 rfl (mem_nil) pantomimelaw21_lives_free) rfl rfl rfl ?_
    rintro _ _ ⟨_, ⟨rfl, rfl⟩, rfl⟩
    refine G_ev (ev_assign rfl) rfl rfl rfl ?_
    refine G_nil ?_
    refine nx_n ?_
    refine G_ret ?_
    refine nx_r ?_
    obtain rfl := Option.some.inj h
    exact endG1 rfl rfl (cv_sel [] 3 rfl rfl) ⟨rfl, rfl⟩
  · replace h := cond_f g7 h
    refine G_skip ?_
    refine nx_n ?_
    refine G_seq ?_
    refine G_region ?_
    obtain ⟨y9, hy9, h⟩ := bind_elim h
    refine G_opd (op_call (remset_New_ok hy9) call11 rfl (cv_take [] [] [0, 1, 2] 3 rfl)) rfl rfl rfl ?_
    rintro _ _ ⟨_, ⟨B10, M11, rfl, rfl⟩, rfl⟩
    refine G_norm ([boxC B10 56 [.map (some M11)], mapC ekI evB M11 y9.at_, boxC B3 42 [.slice A1 n1 c1, .slice A2 n2 c2], slC rDCell (.slice A1 n1 c1) a0.Young, slC rDCell (.slice A2 n2 c2) a0.Old]) rfl ?_
    obtain ⟨y12, hy12, h⟩ := bind_elim h
    refine G_opd (op_call (remset_New_ok hy12) call11 rfl (cv_take [] [] [0, 1, 2, 3, 4] 5 rfl)) rfl rfl rfl ?_
    rintro _ _ ⟨_, ⟨B13, M14, rfl, rfl⟩, rfl⟩
    refine G_norm ([boxC B13 56 [.map (some M14)], mapC ekI evB M14 y12.at_, boxC B10 56 [.map (some M11)], mapC ekI evB M11 y9.at_, boxC B3 42 [.slice A1 n1 c1, .slice A2 n2 c2], slC rDCell (.slice A1 n1 c1) a0.Young, slC rDCell (.slice A2 n2 c2) a0.Old]) rfl ?_
    refine G_ev (ev_assign rfl) rfl rfl rfl ?_
    refine G_ev (ev_assign rfl) rfl rfl rfl ?_
    refine G_nil ?_
    refine nx_n ?_
    refine G_joinF (fun s L => ∃ (p16 : (List (Int × Bool))) (M16 : Nat), pantomimelaw21_RemsetKeeps_j15 N a1 a0 y12 p16 = some r ∧ s = [(1, .int .i64 a1), (2, .pointer (some ⟨B3, 0, none⟩)), (4, .bool false), (5, .pointer (some ⟨B10, 0, none⟩)), (6, .pointer (some ⟨B13, 0, none⟩))] ∧ L = [slC rDCell (.slice A1 n1 c1) a0.Young, slC rDCell (.slice A2 n2 c2) a0.Old, boxC B3 42 [.slice A1 n1 c1, .slice A2 n2 c2], mapC ekI evB M16 p16, boxC B10 56 [.map (some M16)], mapC ekI evB M14 y12.at_, boxC B13 56 [.map (some M14)]]) ?_ ?_
    · refine G_seq ?_
      refine G_region ?_
      refine G_ev (ev_assign rfl) rfl rfl rfl ?_
      refine G_nil ?_
      refine nx_n ?_
      refine G_block ?_
      refine G_loopF (fun m s L => ∃ (p18 : Int) (p19 : (List (Int × Bool))) (M19 : Nat), pantomimelaw21_RemsetKeeps_l17 N a1 a0 y12 m p18 p19 = some r ∧ s = [(1, .int .i64 a1), (2, .pointer (some ⟨B3, 0, none⟩)), (4, .bool false), (5, .pointer (some ⟨B10, 0, none⟩)), (6, .pointer (some ⟨B13, 0, none⟩)), (7, .int .i64 p18)] ∧ L = [slC rDCell (.slice A1 n1 c1) a0.Young, slC rDCell (.slice A2 n2 c2) a0.Old, boxC B3 42 [.slice A1 n1 c1, .slice A2 n2 c2], mapC ekI evB M19 p19, boxC B10 56 [.map (some M19)], mapC ekI evB M14 y12.at_, boxC B13 56 [.map (some M14)]]) N _ _ ⟨0, y9.at_, M11, h, rfl, rfl⟩ (sub_cons rfl (sub_cons rfl (sub_cons rfl (sub_cons rfl (sub_cons rfl (sub_cons rfl sub_nil)))))) (cv_sel [5, 6, 4, 3, 2, 1, 0] 7 rfl rfl) ?_
      rintro (_ | m17) _ _ ⟨p18, p19, M19, h, rfl, rfl⟩
      · exact none_some h
      rw [pantomimelaw21_RemsetKeeps_l17_s] at h
      refine G_seq ?_
      refine G_seq ?_
      refine G_region ?_
      refine G_ev (ev_move rfl) rfl rfl rfl ?_
      refine G_ev (ev_fa rfl fa_42_1) rfl rfl rfl ?_
      refine G_rd (rd_box1 2 rfl rfl one24 rfl) rfl rfl rfl ?_
      refine G_rd (rd_len 1 rfl els_sl rfl Try.underlying24) rfl rfl rfl ?_
      refine G_ev (ev_lt rfl rfl) rfl rfl rfl ?_
      refine G_nil ?_
      refine nx_n ?_
      refine G_cond rfl (fun g20 => ?_) (fun g20 => ?_)
      · replace h := cond_t g20 h
        refine G_skip ?_
        refine nx_n ?_
        refine G_seq ?_
        refine G_block ?_
        refine G_seq ?_
        refine G_drawn (by kernel_rfl) ([slC rDCell (.slice A1 n1 c1) a0.Young, slC rDCell (.slice A2 n2 c2) a0.Old, boxC B3 42 [.slice A1 n1 c1, .slice A2 n2 c2], mapC ekI evB M14 y12.at_, boxC B13 56 [.map (some M14)]]) (cv_sel [0, 1, 2, 5, 6] 7 rfl rfl) ?_
        refine T3_ev 0 rfl (by kernel_rfl) (ev_move rfl) rfl rfl ?_
        refine T3_ev 1 rfl (by kernel_rfl) (ev_move rfl) rfl rfl ?_
        obtain ⟨q21, h⟩ := req_elim h
        refine T3_ev 2 rfl (by kernel_rfl) (ev_mul rfl rfl q21.1 q21.2) rfl rfl ?_
        obtain ⟨q22, h⟩ := req_elim h
        refine T3_ev 3 rfl (by kernel_rfl) (ev_add rfl rfl q22.1 q22.2) rfl rfl ?_
        refine T3_ev 4 rfl (by kernel_rfl) (ev_fa rfl fa_42_1) rfl rfl ?_
        refine T3_rd 5 rfl (by kernel_rfl) (rd_box1 2 rfl rfl one24 rfl) rfl rfl ?_
        refine T3_ev 6 rfl (by kernel_rfl) (ev_move rfl) rfl rfl ?_
        obtain ⟨x23, hx23, h⟩ := bind_elim h
        obtain ⟨lx23, ux23, hx23⟩ := getE_elim hx23
        refine T3_rd 7 rfl (by kernel_rfl) (rd_idx 1 rfl els_sl rfl rfl Try.underlying24 size27 lx23 ux23) rfl rfl ?_
        refine T3_row 1 rfl hx23 (open_DCell x23) ?_
        rintro _ _ ⟨A24, n24, c24, A25, n25, c25, rfl, rfl⟩
        refine T3_rd 8 rfl (by kernel_rfl) (rd_rowS (us := [.int .i64 x23.Kind, .int .i64 x23.Shape, .int .i64 x23.Flags, .int .i64 x23.Age, .slice A24 n24 c24, .slice A25 n25 c25]) 0 rfl rfl agg27 rfl) rfl rfl ?_
        refine T3_ev 10 rfl (by kernel_rfl) (ev_fa rfl fa_42_1) rfl rfl ?_
        refine T3_rd 11 rfl (by kernel_rfl) (rd_box1 5 rfl rfl one24 rfl) rfl rfl ?_
        refine T3_ev 12 rfl (by kernel_rfl) (ev_move rfl) rfl rfl ?_
        obtain ⟨x27, hx27, h⟩ := bind_elim h
        obtain ⟨lx27, ux27, hx27⟩ := getE_elim hx27
        refine T3_rd 13 rfl (by kernel_rfl) (rd_idx 4 rfl els_sl rfl rfl Try.underlying24 size27 lx27 ux27) rfl rfl ?_
        refine T3_row 4 rfl hx27 (open_DCell x27) ?_
        rintro _ _ ⟨A28, n28, c28, A29, n29, c29, rfl, rfl⟩
        refine T3_rd 14 rfl (by kernel_rfl) (rd_rowS (us := [.int .i64 x27.Kind, .int .i64 x27.Shape, .int .i64 x27.Flags, .int .i64 x27.Age, .slice A28 n28 c28, .slice A29 n29 c29]) 0 rfl rfl agg27 rfl) rfl rfl ?_
        obtain ⟨y31, hy31, h⟩ := bind_elim h
        refine T3_opd 9 rfl (by kernel_rfl) (op_call (remset_Set_Note_ok hy31) call12 rfl (cv_take [4, 5] [10, 9] [0, 1, 2, 3, 4, 5, 6, 7, 8, 11, 12] 13 rfl)) rfl rfl rfl ?_
        rintro _ _ ⟨_, ⟨M32, rfl, rfl⟩, rfl⟩
        refine ⟨[rowC (elemQ (.slice A2 n2 c2) p18.toNat 6 0) [.int .i64 x27.Kind, .int .i64 x27.Shape, .int .i64 x27.Flags, .int .i64 x27.Age, .slice A28 n28 c28, .slice A29 n29 c29], slC rDValue (.slice A28 n28 c28) x27.Slots, slC rDValue (.slice A29 n29 c29) x27.More, rowC (elemQ (.slice A2 n2 c2) p18.toNat 6 0) [.int .i64 x23.Kind, .int .i64 x23.Shape, .int .i64 x23.Flags, .int .i64 x23.Age, .slice A24 n24 c24, .slice A25 n25 c25], slC rDValue (.slice A24 n24 c24) x23.Slots, slC rDValue (.slice A25 n25 c25) x23.More, slC rDCell (.slice A1 n1 c1) a0.Young, slC rDCell (.slice A2 n2 c2) a0.Old, boxC B3 42 [.slice A1 n1 c1, .slice A2 n2 c2], mapC ekI evB M14 y12.at_, boxC B13 56 [.map (some M14)]], cv_sel [2, 3, 4, 5, 6, 7, 8, 9, 10, 11, 12] 13 rfl rfl, cv_refl _, ?_⟩
        refine T3_norm ([boxC B10 56 [.map (some M32)], mapC ekI evB M32 y31.2.at_, rowC (elemQ (.slice A2 n2 c2) p18.toNat 6 0) [.int .i64 x27.Kind, .int .i64 x27.Shape, .int .i64 x27.Flags, .int .i64 x27.Age, .slice A28 n28 c28, .slice A29 n29 c29], slC rDValue (.slice A28 n28 c28) x27.Slots, slC rDValue (.slice A29 n29 c29) x27.More, rowC (elemQ (.slice A2 n2 c2) p18.toNat 6 0) [.int .i64 x23.Kind, .int .i64 x23.Shape, .int .i64 x23.Flags, .int .i64 x23.Age, .slice A24 n24 c24, .slice A25 n25 c25], slC rDValue (.slice A24 n24 c24) x23.Slots, slC rDValue (.slice A25 n25 c25) x23.More, slC rDCell (.slice A1 n1 c1) a0.Young, slC rDCell (.slice A2 n2 c2) a0.Old, boxC B3 42 [.slice A1 n1 c1, .slice A2 n2 c2], mapC ekI evB M14 y12.at_, boxC B13 56 [.map (some M14)]]) rfl ?_
        obtain ⟨y33, hy33, h⟩ := bind_elim h
        refine T3_opd 15 rfl (by kernel_rfl) (op_callR (pantomimeref21_Young_ok hy33) call23 rfl (mem_cons (lent_ro (i := 3) rfl rfl) (mem_cons (lent_ro (i := 4) rfl rfl) mem_nil)) pantomimeref21_Young_free) rfl rfl rfl ?_
        rintro _ _ ⟨_, ⟨rfl, rfl⟩, rfl⟩
        refine ⟨[rowC (elemQ (.slice A2 n2 c2) p18.toNat 6 0) [.int .i64 x27.Kind, .int .i64 x27.Shape, .int .i64 x27.Flags, .int .i64 x27.Age, .slice A28 n28 c28, .slice A29 n29 c29], slC rDValue (.slice A28 n28 c28) x27.Slots, slC rDValue (.slice A29 n29 c29) x27.More, rowC (elemQ (.slice A2 n2 c2) p18.toNat 6 0) [.int .i64 x23.Kind, .int .i64 x23.Shape, .int .i64 x23.Flags, .int .i64 x23.Age, .slice A24 n24 c24, .slice A25 n25 c25], slC rDValue (.slice A24 n24 c24) x23.Slots, slC rDValue (.slice A25 n25 c25) x23.More, slC rDCell (.slice A1 n1 c1) a0.Young, slC rDCell (.slice A2 n2 c2) a0.Old, boxC B3 42 [.slice A1 n1 c1, .slice A2 n2 c2], mapC ekI evB M14 y12.at_, boxC B13 56 [.map (some M14)]], cv_sel [2, 3, 4, 5, 6, 7, 8, 9, 10, 11, 12] 13 rfl rfl, cv_refl _, ?_⟩
        refine T3_ev 16 rfl (by kernel_rfl) (ev_bne rfl rfl Try.underlying4) rfl rfl ?_
        refine T3_done (by kernel_rfl) ?_
        refine nx_n ?_
        refine G_cond rfl (fun g34 => ?_) (fun g34 => ?_)
        · replace h := cond_t g34 h
          refine G_seq ?_
          refine G_region ?_
          refine G_ev (ev_assign rfl) rfl rfl rfl ?_
          refine G_nil ?_
          refine nx_n ?_
          refine G_ret ?_
          refine bk_r ?_
          refine nx_r ?_
          refine nx_r ?_
          refine bk_r ?_
          refine nx_r ?_
          obtain rfl := Option.some.inj h
          exact endG1 rfl rfl (cv_sel [] 13 rfl rfl) ⟨rfl, rfl⟩
        · replace h := cond_f g34 h
          refine G_skip ?_
          refine bk_n ?_
          refine nx_n ?_
          refine G_region ?_
          refine G_ev (ev_move rfl) rfl rfl rfl ?_
          obtain ⟨q35, h⟩ := req_elim h
          refine G_ev (ev_add rfl rfl q35.1 q35.2) rfl rfl rfl ?_
          refine G_ev (ev_assign rfl) rfl rfl rfl ?_
          refine G_nil ?_
          refine nx_n ?_
          exact ⟨m17, _, _, Nat.lt_succ_self _, ⟨p18 + 1, y31.2.at_, M32, h, rfl, rfl⟩, sub_cons rfl (sub_cons rfl (sub_cons rfl (sub_cons rfl (sub_cons rfl (sub_cons rfl sub_nil))))), cv_sel [8, 9, 10, 1, 0, 11, 12] 13 rfl rfl⟩
      · replace h := cond_f g20 h
        refine G_exit ?_
        refine nx_e ?_
        refine nx_e ?_
        refine bk_x ?_
        refine nx_n ?_
        exact ⟨_, _, ⟨p19, M19, h, rfl, rfl⟩, sub_cons rfl (sub_cons rfl (sub_cons rfl (sub_cons rfl (sub_cons rfl sub_nil)))), cv_sel [0, 1, 2, 3, 4, 5, 6] 7 rfl rfl⟩
    · rintro _ _ ⟨p16, M16, h, rfl, rfl⟩
      refine G_seq ?_
      refine G_region ?_
      refine G_ev (ev_move rfl) rfl rfl rfl ?_
      refine G_rd (rd_boxS (us := [.slice A1 n1 c1, .slice A2 n2 c2]) 2 rfl rfl agg42 rfl) rfl rfl rfl ?_
      obtain ⟨y36, hy36, h⟩ := bind_elim h
      refine G_opd (op_call (remset_Set_Renew_ok hy36) call18 rfl (cv_take [0, 1] [6, 5] [0, 1, 2, 3, 4] 7 rfl)) rfl rfl rfl ?_
      rintro _ _ ⟨_, ⟨M37, rfl, rfl⟩, rfl⟩
      refine G_norm ([boxC B13 56 [.map (some M37)], mapC ekI evB M37 y36.at_, slC rDCell (.slice A1 n1 c1) a0.Young, slC rDCell (.slice A2 n2 c2) a0.Old, boxC B3 42 [.slice A1 n1 c1, .slice A2 n2 c2], mapC ekI evB M16 p16, boxC B10 56 [.map (some M16)]]) rfl ?_
      refine G_nil ?_
      refine nx_n ?_
      refine G_seq ?_
      refine G_region ?_
      refine G_ev (ev_move rfl) rfl rfl rfl ?_
      obtain ⟨y38, hy38, h⟩ := bind_elim h
      refine G_opd (op_callR (remset_Set_List_ok hy38) call14 rfl (mem_cons (lent_box (i := 6) rfl) (mem_cons (lent_map (i := 5) rfl) mem_nil)) remset_Set_List_free) rfl rfl rfl ?_
      rintro _ _ ⟨_, ⟨A39, n39, c39, rfl, rfl⟩, rfl⟩
      refine G_ev (ev_assign rfl) rfl rfl rfl ?_
      refine G_nil ?_
      refine nx_n ?_
      refine G_seq ?_
      refine G_seq ?_
      refine G_region ?_
      refine G_ev (ev_move rfl) rfl rfl rfl ?_
      refine G_ev (ev_move rfl) rfl rfl rfl ?_
      obtain ⟨y40, hy40, h⟩ := bind_elim h
      refine G_opd (op_callR (remset_Set_List_ok hy40) call14 rfl (mem_cons (lent_box (i := 1) rfl) (mem_cons (lent_map (i := 2) rfl) mem_nil)) remset_Set_List_free) rfl rfl rfl ?_
      rintro _ _ ⟨_, ⟨A41, n41, c41, rfl, rfl⟩, rfl⟩
      obtain ⟨y42, hy42, h⟩ := bind_elim h
      refine G_opd (op_callR (pantomimeref15_SameInts_ok hy42) call13 rfl (mem_cons (lent_own (i := 1) rfl) (mem_cons (lent_own (i := 0) rfl) mem_nil)) pantomimeref15_SameInts_free) rfl rfl rfl ?_
      rintro _ _ ⟨_, ⟨rfl, rfl⟩, rfl⟩
      refine G_ev (ev_not rfl) rfl rfl rfl ?_
      refine G_ev (ev_move rfl) rfl rfl rfl ?_
      obtain ⟨b43, hb43, h⟩ := bind_elim h
      refine G_segb 4 62 b43 ?_ ?_
      · clear h
        refine G_case 58 rfl (fun g43 => ?_) (fun g43 => ?_)
        · have h := cond_t g43 hb43
          refine G_no (g_ft g43 rfl) rfl ?_
          refine G_no (g_ft g43 rfl) rfl ?_
          refine G_no (g_ft g43 rfl) rfl ?_
          refine G_ev (ev_pick_t' g43 rfl rfl) rfl rfl rfl ?_
          obtain rfl := Option.some.inj h
          exact G_joined (sub_cons rfl (sub_skip (sub_skip (sub_skip (sub_skip sub_refl rfl) rfl) rfl) rfl)) (cv_sel [0, 1, 2, 3, 4, 5, 6, 7, 8] 9 rfl rfl)
        · have h := cond_f g43 hb43
          refine G_ev (ev_move rfl) rfl (g_ff g43 rfl) rfl ?_
          refine G_rd (rd_len 1 rfl els_own rfl Try.underlying35) rfl (g_ff g43 rfl) rfl ?_
          refine G_ev (ev_eq rfl rfl) rfl (g_ff g43 rfl) rfl ?_
          refine G_ev (ev_pick_f' g43 rfl rfl) rfl rfl rfl ?_
          obtain rfl := Option.some.inj h
          exact G_joined (sub_cons rfl (sub_skip (sub_skip (sub_skip (sub_skip sub_refl rfl) rfl) rfl) rfl)) (cv_sel [0, 1, 2, 3, 4, 5, 6, 7, 8] 9 rfl rfl)
      refine G_nil ?_
      refine nx_n ?_
      refine G_cond rfl (fun g44 => ?_) (fun g44 => ?_)
      · replace h := cond_t g44 h
        refine G_seq ?_
        refine G_region ?_
        refine G_ev (ev_move rfl) rfl rfl rfl ?_
        refine G_ev (ev_move rfl) rfl rfl rfl ?_
        obtain ⟨y45, hy45, h⟩ := bind_elim h
        refine G_opd (op_callR (remset_Set_List_ok hy45) call14 rfl (mem_cons (lent_box (i := 2) rfl) (mem_cons (lent_map (i := 3) rfl) mem_nil)) remset_Set_List_free) rfl rfl rfl ?_
        rintro _ _ ⟨_, ⟨A46, n46, c46, rfl, rfl⟩, rfl⟩
        obtain ⟨y47, hy47, h⟩ := bind_elim h
        refine G_opd (op_callR (pantomimeref15_SameInts_ok hy47) call13 rfl (mem_cons (lent_own (i := 2) rfl) (mem_cons (lent_own (i := 0) rfl) mem_nil)) pantomimeref15_SameInts_free) rfl rfl rfl ?_
        rintro _ _ ⟨_, ⟨rfl, rfl⟩, rfl⟩
        refine G_ev (ev_move rfl) rfl rfl rfl ?_
        obtain ⟨b48, hb48, h⟩ := bind_elim h
        refine G_segb 2 69 b48 ?_ ?_
        · clear h
          refine G_case 67 rfl (fun g48 => ?_) (fun g48 => ?_)
          · have h := cond_t g48 hb48
            obtain ⟨y49, hy49, h⟩ := bind_elim h
            refine G_opd (op_callR (pantomimelaw21_lives_ok hy49) call9 rfl (mem_nil) pantomimelaw21_lives_free) rfl (g_tt g48 rfl) rfl ?_
            rintro _ _ ⟨_, ⟨rfl, rfl⟩, rfl⟩
            refine G_ev (ev_pick_t' g48 rfl rfl) rfl rfl rfl ?_
            obtain rfl := Option.some.inj h
            exact G_joined (sub_cons rfl (sub_skip (sub_skip sub_refl rfl) rfl)) (cv_sel [0, 1, 2, 3, 4, 5, 6, 7, 8, 9] 10 rfl rfl)
          · have h := cond_f g48 hb48
            refine G_no (g_tf g48 rfl) rfl ?_
            refine G_ev (ev_pick_f' g48 rfl rfl) rfl rfl rfl ?_
            obtain rfl := Option.some.inj h
            exact G_joined (sub_cons rfl (sub_skip (sub_skip sub_refl rfl) rfl)) (cv_sel [0, 1, 2, 3, 4, 5, 6, 7, 8, 9] 10 rfl rfl)
        refine G_ev (ev_assign rfl) rfl rfl rfl ?_
        refine G_nil ?_
        refine nx_n ?_
        refine G_ret ?_
        refine nx_r ?_
        obtain rfl := Option.some.inj h
        exact endG1 rfl rfl (cv_sel [] 10 rfl rfl) ⟨rfl, rfl⟩
      · replace h := cond_f g44 h
        refine G_skip ?_
        refine nx_n ?_
        refine G_seq ?_
        refine G_region ?_
        refine G_ev (ev_move rfl) rfl rfl rfl ?_
        refine G_ev (ev_move rfl) rfl rfl rfl ?_
        refine G_rd (rd_len 1 rfl els_own rfl Try.underlying35) rfl rfl rfl ?_
        obtain ⟨q50, h⟩ := req_elim h
        refine G_ev (ev_rem rfl rfl q50) rfl rfl rfl ?_
        refine G_ev (ev_move rfl) rfl rfl rfl ?_
        refine G_rd (rd_len 1 rfl els_own rfl Try.underlying35) rfl rfl rfl ?_
        obtain ⟨q51, h⟩ := req_elim h
        refine G_ev (ev_add rfl rfl q51.1 q51.2) rfl rfl rfl ?_
        refine G_ev (ev_move rfl) rfl rfl rfl ?_
        refine G_rd (rd_len 1 rfl els_own rfl Try.underlying35) rfl rfl rfl ?_
        obtain ⟨q52, h⟩ := req_elim h
        refine G_ev (ev_rem rfl rfl q52) rfl rfl rfl ?_
        refine G_ev (ev_assign rfl) rfl rfl rfl ?_
        refine G_nil ?_
        refine nx_n ?_
        refine G_seq ?_
        refine G_sub ?_ sub_refl (cv_frz 1 rfl)
        refine Wq_norm ([ownC (rInt .i64) 3 (.slice A41 n41 c41) y40, slC (rInt .i64) (.slice A39 n39 c39) y38, boxC B13 56 [.map (some M37)], mapC ekI evB M37 y36.at_, slC rDCell (.slice A1 n1 c1) a0.Young, slC rDCell (.slice A2 n2 c2) a0.Old, boxC B3 42 [.slice A1 n1 c1, .slice A2 n2 c2], mapC ekI evB M16 p16, boxC B10 56 [.map (some M16)]]) rfl ?_
        refine G_drawn (by kernel_rfl) _ (cv_refl _) ?_
        refine T3_ev 1 rfl (by kernel_rfl) (ev_move rfl) rfl rfl ?_
        refine T3_ev 2 rfl (by kernel_rfl) (ev_move rfl) rfl rfl ?_
        obtain ⟨q53, h⟩ := req_elim h
        refine T3_cut 1 rfl (l := 0) (h := (((a1.tmod (y38.length : Int)) + (y38.length : Int)).tmod (y38.length : Int)).toNat) q53.2.1 q53.2.2 ?_
        rintro A54 n54 c54 e54
        refine T3_rd 3 rfl (by kernel_rfl) (rd_cut 2 rfl e54 rfl Try.underlying35 size3 rfl rfl (by rw [Int.toNat_of_nonneg q53.1]; rfl) q53.2.1 q53.2.2) rfl rfl ?_
        refine T3_ev 5 rfl (by kernel_rfl) (ev_move rfl) rfl rfl ?_
        refine T3_ev 6 rfl (by kernel_rfl) (ev_move rfl) rfl rfl ?_
        obtain ⟨q55, h⟩ := req_elim h
        refine T3_ev 7 rfl (by kernel_rfl) (ev_add rfl rfl q55.1 q55.2) rfl rfl ?_
        obtain ⟨q56, h⟩ := req_elim h
        refine T3_cut 2 rfl (l := ((((a1.tmod (y38.length : Int)) + (y38.length : Int)).tmod (y38.length : Int)) + 1).toNat) (h := y38.length) q56.2.1 q56.2.2 ?_
        rintro A57 n57 c57 e57
        refine T3_rd 8 rfl (by kernel_rfl) (rd_cutN 3 rfl e57 rfl Try.underlying35 size3 rfl (by rw [Int.toNat_of_nonneg q56.1]; rfl) q56.2.1) rfl rfl ?_
        refine T3_opd 0 rfl (by kernel_rfl) (op_bslice (R := (rInt .i64)) (vss := []) (xs := []) rfl (bsl_35_0) rfl rfl (fun _ _ hr => All2.nil)) rfl rfl rfl ?_
        rintro _ _ ⟨A58, n58, c58, rfl, rfl⟩
        refine ⟨[slC (rInt .i64) (.slice A57 n57 c57) ((y38.drop (((((a1.tmod (y38.length : Int)) + (y38.length : Int)).tmod (y38.length : Int)) + 1).toNat)).take (y38.length - ((((a1.tmod (y38.length : Int)) + (y38.length : Int)).tmod (y38.length : Int)) + 1).toNat)), slC (rInt .i64) (.slice A54 n54 c54) ((y38.drop 0).take ((((a1.tmod (y38.length : Int)) + (y38.length : Int)).tmod (y38.length : Int)).toNat - 0)), ownC (rInt .i64) 3 (.slice A41 n41 c41) y40, slC (rInt .i64) (.slice A39 n39 c39) y38, boxC B13 56 [.map (some M37)], mapC ekI evB M37 y36.at_, slC rDCell (.slice A1 n1 c1) a0.Young, slC rDCell (.slice A2 n2 c2) a0.Old, boxC B3 42 [.slice A1 n1 c1, .slice A2 n2 c2], mapC ekI evB M16 p16, boxC B10 56 [.map (some M16)]], cv_sel [1, 2, 3, 4, 5, 6, 7, 8, 9, 10, 11] 12 rfl rfl, cv_refl _, ?_⟩
        obtain ⟨q59, h⟩ := req_elim h
        refine T3_opd 4 rfl (by kernel_rfl) (op_append 0 2 rfl rfl els_sl rfl rfl Try.underlying35 zb3 rfl rfl q59) rfl rfl rfl ?_
        rintro _ _ ⟨A60, n60, c60, rfl, rfl⟩
        refine ⟨[slC (rInt .i64) (.slice A57 n57 c57) ((y38.drop (((((a1.tmod (y38.length : Int)) + (y38.length : Int)).tmod (y38.length : Int)) + 1).toNat)).take (y38.length - ((((a1.tmod (y38.length : Int)) + (y38.length : Int)).tmod (y38.length : Int)) + 1).toNat)), slC (rInt .i64) (.slice A54 n54 c54) ((y38.drop 0).take ((((a1.tmod (y38.length : Int)) + (y38.length : Int)).tmod (y38.length : Int)).toNat - 0)), ownC (rInt .i64) 3 (.slice A41 n41 c41) y40, slC (rInt .i64) (.slice A39 n39 c39) y38, boxC B13 56 [.map (some M37)], mapC ekI evB M37 y36.at_, slC rDCell (.slice A1 n1 c1) a0.Young, slC rDCell (.slice A2 n2 c2) a0.Old, boxC B3 42 [.slice A1 n1 c1, .slice A2 n2 c2], mapC ekI evB M16 p16, boxC B10 56 [.map (some M16)]], cv_sel [1, 2, 3, 4, 5, 6, 7, 8, 9, 10, 11] 12 rfl rfl, cv_refl _, ?_⟩
        refine T3_norm ([ownC (rInt .i64) 3 (.slice A60 n60 c60) (([] : List Int) ++ ((y38.drop 0).take ((((a1.tmod (y38.length : Int)) + (y38.length : Int)).tmod (y38.length : Int)).toNat - 0))), slC (rInt .i64) (.slice A57 n57 c57) ((y38.drop (((((a1.tmod (y38.length : Int)) + (y38.length : Int)).tmod (y38.length : Int)) + 1).toNat)).take (y38.length - ((((a1.tmod (y38.length : Int)) + (y38.length : Int)).tmod (y38.length : Int)) + 1).toNat)), slC (rInt .i64) (.slice A54 n54 c54) ((y38.drop 0).take ((((a1.tmod (y38.length : Int)) + (y38.length : Int)).tmod (y38.length : Int)).toNat - 0)), ownC (rInt .i64) 3 (.slice A41 n41 c41) y40, slC (rInt .i64) (.slice A39 n39 c39) y38, boxC B13 56 [.map (some M37)], mapC ekI evB M37 y36.at_, slC rDCell (.slice A1 n1 c1) a0.Young, slC rDCell (.slice A2 n2 c2) a0.Old, boxC B3 42 [.slice A1 n1 c1, .slice A2 n2 c2], mapC ekI evB M16 p16, boxC B10 56 [.map (some M16)]]) rfl ?_
        obtain ⟨q61, h⟩ := req_elim h
        refine T3_opd 9 rfl (by kernel_rfl) (op_append 0 1 rfl rfl els_sl rfl rfl Try.underlying35 zb3 rfl rfl q61) rfl rfl rfl ?_
        rintro _ _ ⟨A62, n62, c62, rfl, rfl⟩
        refine ⟨[slC (rInt .i64) (.slice A57 n57 c57) ((y38.drop (((((a1.tmod (y38.length : Int)) + (y38.length : Int)).tmod (y38.length : Int)) + 1).toNat)).take (y38.length - ((((a1.tmod (y38.length : Int)) + (y38.length : Int)).tmod (y38.length : Int)) + 1).toNat)), slC (rInt .i64) (.slice A54 n54 c54) ((y38.drop 0).take ((((a1.tmod (y38.length : Int)) + (y38.length : Int)).tmod (y38.length : Int)).toNat - 0)), ownC (rInt .i64) 3 (.slice A41 n41 c41) y40, slC (rInt .i64) (.slice A39 n39 c39) y38, boxC B13 56 [.map (some M37)], mapC ekI evB M37 y36.at_, slC rDCell (.slice A1 n1 c1) a0.Young, slC rDCell (.slice A2 n2 c2) a0.Old, boxC B3 42 [.slice A1 n1 c1, .slice A2 n2 c2], mapC ekI evB M16 p16, boxC B10 56 [.map (some M16)]], cv_sel [1, 2, 3, 4, 5, 6, 7, 8, 9, 10, 11] 12 rfl rfl, cv_refl _, ?_⟩
        refine T3_norm ([ownC (rInt .i64) 3 (.slice A62 n62 c62) ((([] : List Int) ++ ((y38.drop 0).take ((((a1.tmod (y38.length : Int)) + (y38.length : Int)).tmod (y38.length : Int)).toNat - 0))) ++ ((y38.drop (((((a1.tmod (y38.length : Int)) + (y38.length : Int)).tmod (y38.length : Int)) + 1).toNat)).take (y38.length - ((((a1.tmod (y38.length : Int)) + (y38.length : Int)).tmod (y38.length : Int)) + 1).toNat))), slC (rInt .i64) (.slice A57 n57 c57) ((y38.drop (((((a1.tmod (y38.length : Int)) + (y38.length : Int)).tmod (y38.length : Int)) + 1).toNat)).take (y38.length - ((((a1.tmod (y38.length : Int)) + (y38.length : Int)).tmod (y38.length : Int)) + 1).toNat)), slC (rInt .i64) (.slice A54 n54 c54) ((y38.drop 0).take ((((a1.tmod (y38.length : Int)) + (y38.length : Int)).tmod (y38.length : Int)).toNat - 0)), ownC (rInt .i64) 3 (.slice A41 n41 c41) y40, slC (rInt .i64) (.slice A39 n39 c39) y38, boxC B13 56 [.map (some M37)], mapC ekI evB M37 y36.at_, slC rDCell (.slice A1 n1 c1) a0.Young, slC rDCell (.slice A2 n2 c2) a0.Old, boxC B3 42 [.slice A1 n1 c1, .slice A2 n2 c2], mapC ekI evB M16 p16, boxC B10 56 [.map (some M16)]]) rfl ?_
        refine T3_ev 10 rfl (by kernel_rfl) (ev_assign rfl) rfl rfl ?_
        refine T3_done (by kernel_rfl) ?_
        refine nx_n ?_
        refine G_seq ?_
        refine G_region ?_
        refine G_rd (rd_boxS (us := [.slice A1 n1 c1, .slice A2 n2 c2]) 9 rfl rfl agg42 rfl) rfl rfl rfl ?_
        refine G_ev (ev_move rfl) rfl rfl rfl ?_
        obtain ⟨y63, hy63, h⟩ := bind_elim h
        refine G_opd (op_callR (remset_Right_ok hy63) call21 rfl (mem_cons (lent_ro (i := 7) rfl rfl) (mem_cons (lent_ro (i := 8) rfl rfl) (mem_cons (lent_own (i := 0) rfl) mem_nil))) remset_Right_free) rfl rfl rfl ?_
        rintro _ _ ⟨_, ⟨rfl, rfl⟩, rfl⟩
        refine G_ev (ev_not rfl) rfl rfl rfl ?_
        refine G_ev (ev_move rfl) rfl rfl rfl ?_
        obtain ⟨b64, hb64, h⟩ := bind_elim h
        refine G_segb 4 98 b64 ?_ ?_
        · clear h
          refine G_case 94 rfl (fun g64 => ?_) (fun g64 => ?_)
          · have h := cond_t g64 hb64
            refine G_rd (rd_boxS (us := [.slice A1 n1 c1, .slice A2 n2 c2]) 9 rfl rfl agg42 rfl) rfl (g_tt g64 rfl) rfl ?_
            refine G_ev (ev_move rfl) rfl (g_tt g64 rfl) rfl ?_
            obtain ⟨y65, hy65, h⟩ := bind_elim h
            refine G_opd (op_callR (remset_Right_ok hy65) call21 rfl (mem_cons (lent_ro (i := 7) rfl rfl) (mem_cons (lent_ro (i := 8) rfl rfl) (mem_cons (lent_ro (i := 4) rfl rfl) mem_nil))) remset_Right_free) rfl (g_tt g64 rfl) rfl ?_
            rintro _ _ ⟨_, ⟨rfl, rfl⟩, rfl⟩
            refine G_ev (ev_pick_t' g64 rfl rfl) rfl rfl rfl ?_
            obtain rfl := Option.some.inj h
            exact G_joined (sub_cons rfl (sub_skip (sub_skip (sub_skip (sub_skip sub_refl rfl) rfl) rfl) rfl)) (cv_sel [0, 1, 2, 3, 4, 5, 6, 7, 8, 9, 10, 11] 12 rfl rfl)
          · have h := cond_f g64 hb64
            refine G_no (g_tf g64 rfl) rfl ?_
            refine G_no (g_tf g64 rfl) rfl ?_
            refine G_no (g_tf g64 rfl) rfl ?_
            refine G_ev (ev_pick_f' g64 rfl rfl) rfl rfl rfl ?_
            obtain rfl := Option.some.inj h
            exact G_joined (sub_cons rfl (sub_skip (sub_skip (sub_skip (sub_skip sub_refl rfl) rfl) rfl) rfl)) (cv_sel [0, 1, 2, 3, 4, 5, 6, 7, 8, 9, 10, 11] 12 rfl rfl)
        refine G_ev (ev_move rfl) rfl rfl rfl ?_
        obtain ⟨b66, hb66, h⟩ := bind_elim h
        refine G_segb 2 101 b66 ?_ ?_
        · clear h
          refine G_case 99 rfl (fun g66 => ?_) (fun g66 => ?_)
          · have h := cond_t g66 hb66
            obtain ⟨y67, hy67, h⟩ := bind_elim h
            refine G_opd (op_callR (pantomimelaw21_lives_ok hy67) call9 rfl (mem_nil) pantomimelaw21_lives_free) rfl (g_tt g66 rfl) rfl ?_
            rintro _ _ ⟨_, ⟨rfl, rfl⟩, rfl⟩
            refine G_ev (ev_pick_t' g66 rfl rfl) rfl rfl rfl ?_
            obtain rfl := Option.some.inj h
            exact G_joined (sub_cons rfl (sub_skip (sub_skip sub_refl rfl) rfl)) (cv_sel [0, 1, 2, 3, 4, 5, 6, 7, 8, 9, 10, 11] 12 rfl rfl)
          · have h := cond_f g66 hb66
            refine G_no (g_tf g66 rfl) rfl ?_
            refine G_ev (ev_pick_f' g66 rfl rfl) rfl rfl rfl ?_
            obtain rfl := Option.some.inj h
            exact G_joined (sub_cons rfl (sub_skip (sub_skip sub_refl rfl) rfl)) (cv_sel [0, 1, 2, 3, 4, 5, 6, 7, 8, 9, 10, 11] 12 rfl rfl)
        refine G_ev (ev_assign rfl) rfl rfl rfl ?_
        refine G_nil ?_
        refine nx_n ?_
        refine G_ret ?_
        obtain rfl := Option.some.inj h
        exact endG1 rfl rfl (cv_sel [] 12 rfl rfl) ⟨rfl, rfl⟩
theorem pantomimelaw21_RemsetKeeps_free {r : Bool} : ∀ v post, ((fun (u : Value) (post : List Chunk) => u = .bool r ∧ post = [])) v post → ∀ c ∈ post, Free c := by
  rintro _ _ ⟨rfl, rfl⟩; exact mem_nil
/-! pantomime/pantomimelaw21.RemsetWide -/
def pantomimelaw21_RemsetWide_j54 (N : Nat) (p19 : (List Int)) (a0 : DMemory) (p55 : (List Int)) : Option Bool :=
  (remset_Right_O N a0 p19).bind fun y70 => (bif y70 then ((remset_Right_O N a0 p55).bind fun y72 => some (!y72)) else (some false)).bind fun b71 => (bif b71 then ((pantomimelaw21_lives_O N).bind fun y74 => some y74) else (some false)).bind fun b73 => some b73
def pantomimelaw21_RemsetWide_j61 (N : Nat) (kb56 : (List Int) → Int → Option Bool) (x53 : Int) (p58 : Int) (p19 : (List Int)) (a0 : DMemory) (p62 : (List Int)) : Option Bool :=
  req (in64 (p58 + 1)) (kb56 p62 (p58 + 1))
def pantomimelaw21_RemsetWide_l56 (N : Nat) (x53 : Int) (p19 : (List Int)) (a0 : DMemory) : Nat → (List Int) → Int → Option Bool
  | 0, _, _ => none
  | m56 + 1, p57, p58 => bif decide (p58 < (p19.length : Int)) then ((getE p19 p58).bind fun x63 => bif !decide (x63 = x53) then ((getE p19 p58).bind fun x65 => req (fitsL (p57.length + ([x65] : List Int).length)) (pantomimelaw21_RemsetWide_j61 N (pantomimelaw21_RemsetWide_l56 N x53 p19 a0 m56) x53 p58 p19 a0 (p57 ++ ([x65] : List Int)))) else (pantomimelaw21_RemsetWide_j61 N (pantomimelaw21_RemsetWide_l56 N x53 p19 a0 m56) x53 p58 p19 a0 p57)) else (pantomimelaw21_RemsetWide_j54 N p19 a0 p57)
theorem pantomimelaw21_RemsetWide_l56_s {N m56 : Nat} {x53 : Int} {p19 : (List Int)} {a0 : DMemory} {p57 : (List Int)} {p58 : Int} : pantomimelaw21_RemsetWide_l56 N x53 p19 a0 (m56 + 1) p57 p58 = bif decide (p58 < (p19.length : Int)) then ((getE p19 p58).bind fun x63 => bif !decide (x63 = x53) then ((getE p19 p58).bind fun x65 => req (fitsL (p57.length + ([x65] : List Int).length)) (pantomimelaw21_RemsetWide_j61 N (pantomimelaw21_RemsetWide_l56 N x53 p19 a0 m56) x53 p58 p19 a0 (p57 ++ ([x65] : List Int)))) else (pantomimelaw21_RemsetWide_j61 N (pantomimelaw21_RemsetWide_l56 N x53 p19 a0 m56) x53 p58 p19 a0 p57)) else (pantomimelaw21_RemsetWide_j54 N p19 a0 p57) := rfl
def pantomimelaw21_RemsetWide_j18 (N : Nat) (a2 : Int) (y16 : ((List Int))) (a0 : DMemory) (p19 : (List Int)) : Option Bool :=
  bif decide ((y16.length : Int) = 0) then ((remset_Right_O N a0 p19).bind fun y49 => (bif y49 then ((pantomimelaw21_lives_O N).bind fun y51 => some y51) else (some false)).bind fun b50 => some b50) else (req ((IntKind.u64.wrap (y16.length : Int)) ≠ 0) ((getE y16 ((IntKind.u64.wrap a2).tmod (IntKind.u64.wrap (y16.length : Int)))).bind fun x53 => pantomimelaw21_RemsetWide_l56 N x53 p19 a0 N [] 0))
def pantomimelaw21_RemsetWide_j25 (N : Nat) (kb20 : (List Int) → Int → Option Bool) (a2 : Int) (p22 : Int) (a1 : (List Bool)) (y16 : ((List Int))) (a0 : DMemory) (p26 : (List Int)) : Option Bool :=
  req (in64 (p22 + 1)) (kb20 p26 (p22 + 1))
def pantomimelaw21_RemsetWide_j27 (N : Nat) (kb20 : (List Int) → Int → Option Bool) (a2 : Int) (p22 : Int) (a1 : (List Bool)) (y16 : ((List Int))) (p21 : (List Int)) (a0 : DMemory) (p28 : Bool) : Option Bool :=
  (bif p28 then (some true) else ((bif decide (p22 < (a1.length : Int)) then ((getE a1 p22).bind fun x40 => some x40) else (some false)).bind fun b39 => some b39)).bind fun b38 => bif b38 then (req (in64 (2 * p22)) (req (in64 ((2 * p22) + 2)) (req (fitsL (p21.length + ([(2 * p22) + 2] : List Int).length)) (pantomimelaw21_RemsetWide_j25 N kb20 a2 p22 a1 y16 a0 (p21 ++ ([(2 * p22) + 2] : List Int)))))) else (pantomimelaw21_RemsetWide_j25 N kb20 a2 p22 a1 y16 a0 p21)
def pantomimelaw21_RemsetWide_l29 (N : Nat) (kb20 : (List Int) → Int → Option Bool) (a2 : Int) (p22 : Int) (a1 : (List Bool)) (y16 : ((List Int))) (p21 : (List Int)) (a0 : DMemory) : Nat → Bool → Int → Option Bool
  | 0, _, _ => none
  | m29 + 1, p30, p31 => bif decide (p31 < (y16.length : Int)) then ((bif p30 then (some true) else ((getE y16 p31).bind fun x34 => req (in64 (2 * p22)) (req (in64 ((2 * p22) + 2)) (some (decide (x34 = (2 * p22) + 2)))))).bind fun b33 => req (in64 (p31 + 1)) ((pantomimelaw21_RemsetWide_l29 N kb20 a2 p22 a1 y16 p21 a0 m29) b33 (p31 + 1))) else (pantomimelaw21_RemsetWide_j27 N kb20 a2 p22 a1 y16 p21 a0 p30)
theorem pantomimelaw21_RemsetWide_l29_s {N m29 : Nat} {kb20 : (List Int) → Int → Option Bool} {a2 : Int} {p22 : Int} {a1 : (List Bool)} {y16 : ((List Int))} {p21 : (List Int)} {a0 : DMemory} {p30 : Bool} {p31 : Int} : pantomimelaw21_RemsetWide_l29 N kb20 a2 p22 a1 y16 p21 a0 (m29 + 1) p30 p31 = bif decide (p31 < (y16.length : Int)) then ((bif p30 then (some true) else ((getE y16 p31).bind fun x34 => req (in64 (2 * p22)) (req (in64 ((2 * p22) + 2)) (some (decide (x34 = (2 * p22) + 2)))))).bind fun b33 => req (in64 (p31 + 1)) ((pantomimelaw21_RemsetWide_l29 N kb20 a2 p22 a1 y16 p21 a0 m29) b33 (p31 + 1))) else (pantomimelaw21_RemsetWide_j27 N kb20 a2 p22 a1 y16 p21 a0 p30) := rfl
def pantomimelaw21_RemsetWide_l20 (N : Nat) (a2 : Int) (a1 : (List Bool)) (y16 : ((List Int))) (a0 : DMemory) : Nat → (List Int) → Int → Option Bool
  | 0, _, _ => none
  | m20 + 1, p21, p22 => bif decide (p22 < (a0.Old.length : Int)) then (pantomimelaw21_RemsetWide_l29 N (pantomimelaw21_RemsetWide_l20 N a2 a1 y16 a0 m20) a2 p22 a1 y16 p21 a0 N false 0) else (pantomimelaw21_RemsetWide_j18 N a2 y16 a0 p21)
theorem pantomimelaw21_RemsetWide_l20_s {N m20 : Nat} {a2 : Int} {a1 : (List Bool)} {y16 : ((List Int))} {a0 : DMemory} {p21 : (List Int)} {p22 : Int} : pantomimelaw21_RemsetWide_l20 N a2 a1 y16 a0 (m20 + 1) p21 p22 = bif decide (p22 < (a0.Old.length : Int)) then (pantomimelaw21_RemsetWide_l29 N (pantomimelaw21_RemsetWide_l20 N a2 a1 y16 a0 m20) a2 p22 a1 y16 p21 a0 N false 0) else (pantomimelaw21_RemsetWide_j18 N a2 y16 a0 p21) := rfl
def pantomimelaw21_RemsetWide_O (N : Nat) (a0 : DMemory) (a1 : (List Bool)) (a2 : Int) : Option Bool :=
  (pantomimelaw21_few_O N a0.Young).bind fun y5 => (bif !y5 then (some true) else ((pantomimelaw21_few_O N a0.Old).bind fun y7 => some (!y7))).bind fun b6 => (bif b6 then (some true) else (some (decide (60 < (a1.length : Int))))).bind fun b8 => bif b8 then ((pantomimelaw21_lives_O N).bind fun y10 => some y10) else ((remset_New_O N).bind fun y11 => (remset_Set_Renew_O N y11 a0).bind fun y14 => (remset_Set_List_O N y14).bind fun y16 => pantomimelaw21_RemsetWide_l20 N a2 a1 y16 a0 N [] 0)
theorem pantomimelaw21_RemsetWide_ok {N : Nat} {a0 : DMemory} {a1 : (List Bool)} {a2 : Int} {r : Bool} (h : pantomimelaw21_RemsetWide_O N a0 a1 a2 = some r) {A1 : Option Addr} {n1 c1 : Nat} {A2 : Option Addr} {n2 c2 : Nat} {A3 : Option Addr} {n3 c3 : Nat} : Okc Try.prog 8 [.agg #[.slice A1 n1 c1, .slice A2 n2 c2], .slice A3 n3 c3, .int .i64 a2] ([slC rDCell (.slice A1 n1 c1) a0.Young, slC rDCell (.slice A2 n2 c2) a0.Old, slC rBool (.slice A3 n3 c3) a1]) (fun (u : Value) (post : List Chunk) => u = .bool r ∧ post = []) := by
  refine ok_E Try.func8 rfl rfl ?_
  simp only [envOf]
  refine G_seq ?_
  refine G_region ?_
  refine G_opd (op_box rfl rfl) rfl rfl rfl ?_
  rintro _ _ ⟨B4, rfl, rfl⟩
  refine G_ev (ev_assign rfl) rfl rfl rfl ?_
  refine G_nil ?_
  refine nx_n ?_
  refine G_seq ?_
  refine G_seq ?_
  refine G_region ?_
  refine G_ev (ev_fa0 rfl fa_42_0) rfl rfl rfl ?_
  refine G_rd (rd_box1 0 rfl rfl one24 rfl) rfl rfl rfl ?_
  obtain ⟨y5, hy5, h⟩ := bind_elim h
  refine G_opd (op_callR (pantomimelaw21_few_ok hy5) call10 rfl (mem_cons (lent_ro (i := 1) rfl rfl) mem_nil) pantomimelaw21_few_free) rfl rfl rfl ?_
  rintro _ _ ⟨_, ⟨rfl, rfl⟩, rfl⟩
  refine G_ev (ev_not rfl) rfl rfl rfl ?_
  refine G_ev (ev_move rfl) rfl rfl rfl ?_
  obtain ⟨b6, hb6, h⟩ := bind_elim h
  refine G_segb 5 25 b6 ?_ ?_
  · clear h
    refine G_case 20 rfl (fun g6 => ?_) (fun g6 => ?_)
    · have h := cond_t g6 hb6
      refine G_no (g_ft g6 rfl) rfl ?_
      refine G_no (g_ft g6 rfl) rfl ?_
      refine G_no (g_ft g6 rfl) rfl ?_
      refine G_no (g_ft g6 rfl) rfl ?_
      refine G_ev (ev_pick_t' g6 rfl rfl) rfl rfl rfl ?_
      obtain rfl := Option.some.inj h
      exact G_joined (sub_cons rfl (sub_skip (sub_skip (sub_skip (sub_skip (sub_skip sub_refl rfl) rfl) rfl) rfl) rfl)) (cv_sel [0, 1, 2, 3] 4 rfl rfl)
    · have h := cond_f g6 hb6
      refine G_ev (ev_fa rfl fa_42_1) rfl (g_ff g6 rfl) rfl ?_
      refine G_rd (rd_box1 0 rfl rfl one24 rfl) rfl (g_ff g6 rfl) rfl ?_
      obtain ⟨y7, hy7, h⟩ := bind_elim h
      refine G_opd (op_callR (pantomimelaw21_few_ok hy7) call10 rfl (mem_cons (lent_ro (i := 2) rfl rfl) mem_nil) pantomimelaw21_few_free) rfl (g_ff g6 rfl) rfl ?_
      rintro _ _ ⟨_, ⟨rfl, rfl⟩, rfl⟩
      refine G_ev (ev_not rfl) rfl (g_ff g6 rfl) rfl ?_
      refine G_ev (ev_pick_f' g6 rfl rfl) rfl rfl rfl ?_
      obtain rfl := Option.some.inj h
      exact G_joined (sub_cons rfl (sub_skip (sub_skip (sub_skip (sub_skip (sub_skip sub_refl rfl) rfl) rfl) rfl) rfl)) (cv_sel [0, 1, 2, 3] 4 rfl rfl)
  refine G_ev (ev_move rfl) rfl rfl rfl ?_
  obtain ⟨b8, hb8, h⟩ := bind_elim h
  refine G_segb 4 30 b8 ?_ ?_
  · clear h
    refine G_case 26 rfl (fun g8 => ?_) (fun g8 => ?_)
    · have h := cond_t g8 hb8
      refine G_no (g_ft g8 rfl) rfl ?_
      refine G_no (g_ft g8 rfl) rfl ?_
      refine G_no (g_ft g8 rfl) rfl ?_
      refine G_ev (ev_pick_t' g8 rfl rfl) rfl rfl rfl ?_
      obtain rfl := Option.some.inj h
      exact G_joined (sub_cons rfl (sub_skip (sub_skip (sub_skip (sub_skip sub_refl rfl) rfl) rfl) rfl)) (cv_sel [0, 1, 2, 3] 4 rfl rfl)
    · have h := cond_f g8 hb8
      refine G_ev (ev_move rfl) rfl (g_ff g8 rfl) rfl ?_
      refine G_rd (rd_len 3 rfl els_sl rfl Try.underlying51) rfl (g_ff g8 rfl) rfl ?_
      refine G_ev (ev_gt rfl rfl) rfl (g_ff g8 rfl) rfl ?_
      refine G_ev (ev_pick_f' g8 rfl rfl) rfl rfl rfl ?_
      obtain rfl := Option.some.inj h
      exact G_joined (sub_cons rfl (sub_skip (sub_skip (sub_skip (sub_skip sub_refl rfl) rfl) rfl) rfl)) (cv_sel [0, 1, 2, 3] 4 rfl rfl)
  refine G_nil ?_
  refine nx_n ?_
  refine G_cond rfl (fun g9 => ?_) (fun g9 => ?_)
  · replace h := cond_t g9 h
    refine G_seq ?_
    refine G_region ?_
    obtain ⟨y10, hy10, h⟩ := bind_elim h
    refine G_opd (op_callR (pantomimelaw21_lives_ok hy10) call9 rfl (mem_nil) pantomimelaw21_lives_free) rfl rfl rfl ?_
    rintro _ _ ⟨_, ⟨rfl, rfl⟩, rfl⟩
    refine G_ev (ev_assign rfl) rfl rfl rfl ?_
    refine G_nil ?_
    refine nx_n ?_
    refine G_ret ?_
    refine nx_r ?_
    obtain rfl := Option.some.inj h
    exact endG1 rfl rfl (cv_sel [] 4 rfl rfl) ⟨rfl, rfl⟩
  · replace h := cond_f g9 h
    refine G_skip ?_
    refine nx_n ?_
    refine G_seq ?_
    refine G_region ?_
    obtain ⟨y11, hy11, h⟩ := bind_elim h
    refine G_opd (op_call (remset_New_ok hy11) call11 rfl (cv_take [] [] [0, 1, 2, 3] 4 rfl)) rfl rfl rfl ?_
    rintro _ _ ⟨_, ⟨B12, M13, rfl, rfl⟩, rfl⟩
    refine G_norm ([boxC B12 56 [.map (some M13)], mapC ekI evB M13 y11.at_, boxC B4 42 [.slice A1 n1 c1, .slice A2 n2 c2], slC rDCell (.slice A1 n1 c1) a0.Young, slC rDCell (.slice A2 n2 c2) a0.Old, slC rBool (.slice A3 n3 c3) a1]) rfl ?_
    refine G_ev (ev_assign rfl) rfl rfl rfl ?_
    refine G_nil ?_
    refine nx_n ?_
    refine G_seq ?_
    refine G_region ?_
    refine G_ev (ev_move rfl) rfl rfl rfl ?_
    refine G_rd (rd_boxS (us := [.slice A1 n1 c1, .slice A2 n2 c2]) 2 rfl rfl agg42 rfl) rfl rfl rfl ?_
    obtain ⟨y14, hy14, h⟩ := bind_elim h
    refine G_opd (op_call (remset_Set_Renew_ok hy14) call18 rfl (cv_take [3, 4] [0, 1] [2, 3, 4, 5] 6 rfl)) rfl rfl rfl ?_
    rintro _ _ ⟨_, ⟨M15, rfl, rfl⟩, rfl⟩
    refine G_norm ([boxC B12 56 [.map (some M15)], mapC ekI evB M15 y14.at_, boxC B4 42 [.slice A1 n1 c1, .slice A2 n2 c2], slC rDCell (.slice A1 n1 c1) a0.Young, slC rDCell (.slice A2 n2 c2) a0.Old, slC rBool (.slice A3 n3 c3) a1]) rfl ?_
    refine G_nil ?_
    refine nx_n ?_
    refine G_seq ?_
    refine G_region ?_
    refine G_ev (ev_move rfl) rfl rfl rfl ?_
    obtain ⟨y16, hy16, h⟩ := bind_elim h
    refine G_opd (op_callR (remset_Set_List_ok hy16) call14 rfl (mem_cons (lent_box (i := 0) rfl) (mem_cons (lent_map (i := 1) rfl) mem_nil)) remset_Set_List_free) rfl rfl rfl ?_
    rintro _ _ ⟨_, ⟨A17, n17, c17, rfl, rfl⟩, rfl⟩
    refine G_ev (ev_assign rfl) rfl rfl rfl ?_
    refine G_nil ?_
    refine nx_n ?_
    refine G_seq ?_
    refine G_region ?_
    refine G_ev (ev_assign rfl) rfl rfl rfl ?_
    refine G_ev (ev_assign rfl) rfl rfl rfl ?_
    refine G_nil ?_
    refine nx_n ?_
    refine G_joinF (fun s L => ∃ (p19 : (List Int)) (A19 : Option Addr) (n19 c19 : Nat), pantomimelaw21_RemsetWide_j18 N a2 y16 a0 p19 = some r ∧ s = [(2, .int .i64 a2), (3, .pointer (some ⟨B4, 0, none⟩)), (6, .bool false), (8, .slice A17 n17 c17), (9, .slice A19 n19 c19), (10, .slice none 0 0)] ∧ L = [ownC (rInt .i64) 3 (.slice A17 n17 c17) y16, ownC (rInt .i64) 3 (.slice A19 n19 c19) p19, slC rDCell (.slice A1 n1 c1) a0.Young, slC rDCell (.slice A2 n2 c2) a0.Old, boxC B4 42 [.slice A1 n1 c1, .slice A2 n2 c2]]) ?_ ?_
    · refine G_seq ?_
      refine G_region ?_
      refine G_ev (ev_assign rfl) rfl rfl rfl ?_
      refine G_nil ?_
      refine nx_n ?_
      refine G_block ?_
      refine G_loopF (fun m s L => ∃ (p21 : (List Int)) (p22 : Int) (A21 : Option Addr) (n21 c21 : Nat), pantomimelaw21_RemsetWide_l20 N a2 a1 y16 a0 m p21 p22 = some r ∧ s = [(1, .slice A3 n3 c3), (2, .int .i64 a2), (3, .pointer (some ⟨B4, 0, none⟩)), (6, .bool false), (8, .slice A17 n17 c17), (9, .slice A21 n21 c21), (10, .slice none 0 0), (11, .int .i64 p22)] ∧ L = [slC rBool (.slice A3 n3 c3) a1, ownC (rInt .i64) 3 (.slice A17 n17 c17) y16, ownC (rInt .i64) 3 (.slice A21 n21 c21) p21, slC rDCell (.slice A1 n1 c1) a0.Young, slC rDCell (.slice A2 n2 c2) a0.Old, boxC B4 42 [.slice A1 n1 c1, .slice A2 n2 c2]]) N _ _ ⟨[], 0, none, 0, 0, h, rfl, rfl⟩ (sub_cons rfl (sub_cons rfl (sub_cons rfl (sub_cons rfl (sub_cons rfl (sub_cons rfl (sub_cons rfl (sub_cons rfl sub_nil)))))))) ((cv_nil (rInt .i64) 3 _).trans (cv_sel [7, 1, 0, 5, 6, 4] 8 rfl rfl)) ?_
      rintro (_ | m20) _ _ ⟨p21, p22, A21, n21, c21, h, rfl, rfl⟩
      · exact none_some h
      rw [pantomimelaw21_RemsetWide_l20_s] at h
      refine G_seq ?_
      refine G_seq ?_
      refine G_region ?_
      refine G_ev (ev_move rfl) rfl rfl rfl ?_
      refine G_ev (ev_fa rfl fa_42_1) rfl rfl rfl ?_
      refine G_rd (rd_box1 5 rfl rfl one24 rfl) rfl rfl rfl ?_
      refine G_rd (rd_len 4 rfl els_sl rfl Try.underlying24) rfl rfl rfl ?_
      refine G_ev (ev_lt rfl rfl) rfl rfl rfl ?_
      refine G_nil ?_
      refine nx_n ?_
      refine G_cond rfl (fun g24 => ?_) (fun g24 => ?_)
      · replace h := cond_t g24 h
        refine G_skip ?_
        refine nx_n ?_
        refine G_joinF (fun s L => ∃ (p26 : (List Int)) (A26 : Option Addr) (n26 c26 : Nat), pantomimelaw21_RemsetWide_j25 N (pantomimelaw21_RemsetWide_l20 N a2 a1 y16 a0 m20) a2 p22 a1 y16 a0 p26 = some r ∧ s = [(1, .slice A3 n3 c3), (2, .int .i64 a2), (3, .pointer (some ⟨B4, 0, none⟩)), (6, .bool false), (8, .slice A17 n17 c17), (9, .slice A26 n26 c26), (10, .slice none 0 0), (11, .int .i64 p22)] ∧ L = [slC rBool (.slice A3 n3 c3) a1, ownC (rInt .i64) 3 (.slice A17 n17 c17) y16, ownC (rInt .i64) 3 (.slice A26 n26 c26) p26, slC rDCell (.slice A1 n1 c1) a0.Young, slC rDCell (.slice A2 n2 c2) a0.Old, boxC B4 42 [.slice A1 n1 c1, .slice A2 n2 c2]]) ?_ ?_
        · refine G_block ?_
          refine G_seq ?_
          refine G_region ?_
          refine G_ev (ev_assign rfl) rfl rfl rfl ?_
          refine G_nil ?_
          refine nx_n ?_
          refine G_joinF (fun s L => ∃ (p28 : Bool), pantomimelaw21_RemsetWide_j27 N (pantomimelaw21_RemsetWide_l20 N a2 a1 y16 a0 m20) a2 p22 a1 y16 p21 a0 p28 = some r ∧ s = [(1, .slice A3 n3 c3), (2, .int .i64 a2), (3, .pointer (some ⟨B4, 0, none⟩)), (6, .bool false), (8, .slice A17 n17 c17), (9, .slice A21 n21 c21), (10, .slice none 0 0), (11, .int .i64 p22), (12, .bool p28)] ∧ L = [slC rBool (.slice A3 n3 c3) a1, ownC (rInt .i64) 3 (.slice A17 n17 c17) y16, ownC (rInt .i64) 3 (.slice A21 n21 c21) p21, slC rDCell (.slice A1 n1 c1) a0.Young, slC rDCell (.slice A2 n2 c2) a0.Old, boxC B4 42 [.slice A1 n1 c1, .slice A2 n2 c2]]) ?_ ?_
          · refine G_seq ?_
            refine G_region ?_
            refine G_ev (ev_assign rfl) rfl rfl rfl ?_
            refine G_nil ?_
            refine nx_n ?_
            refine G_block ?_
            refine G_loopF (fun m s L => ∃ (p30 : Bool) (p31 : Int), pantomimelaw21_RemsetWide_l29 N (pantomimelaw21_RemsetWide_l20 N a2 a1 y16 a0 m20) a2 p22 a1 y16 p21 a0 m p30 p31 = some r ∧ s = [(1, .slice A3 n3 c3), (2, .int .i64 a2), (3, .pointer (some ⟨B4, 0, none⟩)), (6, .bool false), (8, .slice A17 n17 c17), (9, .slice A21 n21 c21), (10, .slice none 0 0), (11, .int .i64 p22), (12, .bool p30), (13, .int .i64 p31)] ∧ L = [slC rBool (.slice A3 n3 c3) a1, ownC (rInt .i64) 3 (.slice A17 n17 c17) y16, ownC (rInt .i64) 3 (.slice A21 n21 c21) p21, slC rDCell (.slice A1 n1 c1) a0.Young, slC rDCell (.slice A2 n2 c2) a0.Old, boxC B4 42 [.slice A1 n1 c1, .slice A2 n2 c2]]) N _ _ ⟨false, 0, h, rfl, rfl⟩ (sub_cons rfl (sub_cons rfl (sub_cons rfl (sub_cons rfl (sub_cons rfl (sub_cons rfl (sub_cons rfl (sub_cons rfl (sub_cons rfl (sub_cons rfl sub_nil)))))))))) (cv_sel [0, 1, 2, 3, 4, 5] 6 rfl rfl) ?_
            rintro (_ | m29) _ _ ⟨p30, p31, h, rfl, rfl⟩
            · exact none_some h
            rw [pantomimelaw21_RemsetWide_l29_s] at h
            refine G_seq ?_
            refine G_seq ?_
            refine G_region ?_
            refine G_ev (ev_move rfl) rfl rfl rfl ?_
            refine G_ev (ev_move rfl) rfl rfl rfl ?_
            refine G_rd (rd_len 1 rfl els_own rfl Try.underlying35) rfl rfl rfl ?_
            refine G_ev (ev_lt rfl rfl) rfl rfl rfl ?_
            refine G_nil ?_
            refine nx_n ?_
            refine G_cond rfl (fun g32 => ?_) (fun g32 => ?_)
            · replace h := cond_t g32 h
              refine G_skip ?_
              refine nx_n ?_
              refine G_seq ?_
              refine G_block ?_
              refine G_region ?_
              refine G_ev (ev_move rfl) rfl rfl rfl ?_
              refine G_ev (ev_move rfl) rfl rfl rfl ?_
              obtain ⟨b33, hb33, h⟩ := bind_elim h
              refine G_segb 9 61 b33 ?_ ?_
              · clear h
                refine G_case 52 rfl (fun g33 => ?_) (fun g33 => ?_)
                · have h := cond_t g33 hb33
                  refine G_no (g_ft g33 rfl) rfl ?_
                  refine G_no (g_ft g33 rfl) rfl ?_
                  refine G_no (g_ft g33 rfl) rfl ?_
                  refine G_no (g_ft g33 rfl) rfl ?_
                  refine G_no (g_ft g33 rfl) rfl ?_
                  refine G_no (g_ft g33 rfl) rfl ?_
                  refine G_no (g_ft g33 rfl) rfl ?_
                  refine G_no (g_ft g33 rfl) rfl ?_
                  refine G_ev (ev_pick_t' g33 rfl rfl) rfl rfl rfl ?_
                  obtain rfl := Option.some.inj h
                  exact G_joined (sub_cons rfl (sub_skip (sub_skip (sub_skip (sub_skip (sub_skip (sub_skip (sub_skip (sub_skip (sub_skip sub_refl rfl) rfl) rfl) rfl) rfl) rfl) rfl) rfl) rfl)) (cv_sel [0, 1, 2, 3, 4, 5] 6 rfl rfl)
                · have h := cond_f g33 hb33
                  refine G_ev (ev_move rfl) rfl (g_ff g33 rfl) rfl ?_
                  refine G_ev (ev_move rfl) rfl (g_ff g33 rfl) rfl ?_
                  obtain ⟨x34, hx34, h⟩ := bind_elim h
                  obtain ⟨lx34, ux34, hx34⟩ := getE_elim hx34
                  refine G_rd (rd_idx 1 rfl els_own rfl rfl Try.underlying35 size3 lx34 ux34) rfl (g_ff g33 rfl) rfl ?_
                  refine G_rd (rd_elem1 (u := .int .i64 x34) 1 rfl els_own rfl hx34 one3 (fun _ _ _ h => by rw [show _ = _ from h]; rfl)) rfl (g_ff g33 rfl) rfl ?_
                  refine G_ev (ev_move rfl) rfl (g_ff g33 rfl) rfl ?_
                  obtain ⟨q35, h⟩ := req_elim h
                  refine G_ev (ev_mul rfl rfl q35.1 q35.2) rfl (g_ff g33 rfl) rfl ?_
                  obtain ⟨q36, h⟩ := req_elim h
                  refine G_ev (ev_add rfl rfl q36.1 q36.2) rfl (g_ff g33 rfl) rfl ?_
                  refine G_ev (ev_eq rfl rfl) rfl (g_ff g33 rfl) rfl ?_
                  refine G_ev (ev_pick_f' g33 rfl rfl) rfl rfl rfl ?_
                  obtain rfl := Option.some.inj h
                  exact G_joined (sub_cons rfl (sub_skip (sub_skip (sub_skip (sub_skip (sub_skip (sub_skip (sub_skip (sub_skip (sub_skip sub_refl rfl) rfl) rfl) rfl) rfl) rfl) rfl) rfl) rfl)) (cv_sel [0, 1, 2, 3, 4, 5] 6 rfl rfl)
              refine G_ev (ev_assign rfl) rfl rfl rfl ?_
              refine G_nil ?_
              refine bk_n ?_
              refine nx_n ?_
              refine G_region ?_
              refine G_ev (ev_move rfl) rfl rfl rfl ?_
              obtain ⟨q37, h⟩ := req_elim h
              refine G_ev (ev_add rfl rfl q37.1 q37.2) rfl rfl rfl ?_
              refine G_ev (ev_assign rfl) rfl rfl rfl ?_
              refine G_nil ?_
              refine nx_n ?_
              exact ⟨m29, _, _, Nat.lt_succ_self _, ⟨b33, p31 + 1, h, rfl, rfl⟩, sub_cons rfl (sub_cons rfl (sub_cons rfl (sub_cons rfl (sub_cons rfl (sub_cons rfl (sub_cons rfl (sub_cons rfl (sub_cons rfl (sub_cons rfl sub_nil))))))))), cv_sel [0, 1, 2, 3, 4, 5] 6 rfl rfl⟩
            · replace h := cond_f g32 h
              refine G_exit ?_
              refine nx_e ?_
              refine nx_e ?_
              refine bk_x ?_
              refine nx_n ?_
              exact ⟨_, _, ⟨p30, h, rfl, rfl⟩, sub_cons rfl (sub_cons rfl (sub_cons rfl (sub_cons rfl (sub_cons rfl (sub_cons rfl (sub_cons rfl (sub_cons rfl (sub_cons rfl sub_nil)))))))), cv_sel [0, 1, 2, 3, 4, 5] 6 rfl rfl⟩
          · rintro _ _ ⟨p28, h, rfl, rfl⟩
            refine G_seq ?_
            refine G_region ?_
            refine G_ev (ev_move rfl) rfl rfl rfl ?_
            refine G_ev (ev_move rfl) rfl rfl rfl ?_
            obtain ⟨b38, hb38, h⟩ := bind_elim h
            refine G_segb 11 74 b38 ?_ ?_
            · clear h
              refine G_case 63 rfl (fun g38 => ?_) (fun g38 => ?_)
              · have h := cond_t g38 hb38
                refine G_no (g_ft g38 rfl) rfl ?_
                refine G_no (g_ft g38 rfl) rfl ?_
                refine G_no (g_ft g38 rfl) rfl ?_
                refine G_no (g_ft g38 rfl) rfl ?_
                refine G_no (g_ft g38 rfl) rfl ?_
                refine G_no rfl rfl ?_
                refine G_no rfl rfl ?_
                refine G_no rfl rfl ?_
                refine G_no rfl rfl ?_
                refine G_no (g_ft g38 rfl) rfl ?_
                refine G_ev (ev_pick_t' g38 rfl rfl) rfl rfl rfl ?_
                obtain rfl := Option.some.inj h
                exact G_joined (sub_cons rfl (sub_skip (sub_skip (sub_skip (sub_skip (sub_skip (sub_skip (sub_skip (sub_skip (sub_skip (sub_skip (sub_skip sub_refl rfl) rfl) rfl) rfl) rfl) rfl) rfl) rfl) rfl) rfl) rfl)) (cv_sel [0, 1, 2, 3, 4, 5] 6 rfl rfl)
              · have h := cond_f g38 hb38
                refine G_ev (ev_move rfl) rfl (g_ff g38 rfl) rfl ?_
                refine G_ev (ev_move rfl) rfl (g_ff g38 rfl) rfl ?_
                refine G_rd (rd_len 0 rfl els_sl rfl Try.underlying51) rfl (g_ff g38 rfl) rfl ?_
                refine G_ev (ev_lt rfl rfl) rfl (g_ff g38 rfl) rfl ?_
                refine G_ev (ev_move rfl) rfl (g_ff g38 rfl) rfl ?_
                obtain ⟨b39, hb39, h⟩ := bind_elim h
                refine G_segb 5 73 b39 ?_ ?_
                · clear h
                  refine G_case 68 rfl (fun g39 => ?_) (fun g39 => ?_)
                  · have h := cond_t g39 hb39
                    refine G_ev (ev_move rfl) rfl (g_tt g39 rfl) rfl ?_
                    refine G_ev (ev_move rfl) rfl (g_tt g39 rfl) rfl ?_
                    obtain ⟨x40, hx40, h⟩ := bind_elim h
                    obtain ⟨lx40, ux40, hx40⟩ := getE_elim hx40
                    refine G_rd (rd_idx 0 rfl els_sl rfl rfl Try.underlying51 size4 lx40 ux40) rfl (g_tt g39 rfl) rfl ?_
                    refine G_rd (rd_elem1 (u := .bool x40) 0 rfl els_sl rfl hx40 one4 (fun _ _ _ h => by rw [show _ = _ from h]; rfl)) rfl (g_tt g39 rfl) rfl ?_
                    refine G_ev (ev_pick_t' g39 rfl rfl) rfl (g_ff g38 rfl) rfl ?_
                    obtain rfl := Option.some.inj h
                    exact G_joined (sub_cons rfl (sub_skip (sub_skip (sub_skip (sub_skip (sub_skip sub_refl rfl) rfl) rfl) rfl) rfl)) (cv_sel [0, 1, 2, 3, 4, 5] 6 rfl rfl)
                  · have h := cond_f g39 hb39
                    refine G_no (g_tf g39 rfl) rfl ?_
                    refine G_no (g_tf g39 rfl) rfl ?_
                    refine G_no (g_tf g39 rfl) rfl ?_
                    refine G_no (g_tf g39 rfl) rfl ?_
                    refine G_ev (ev_pick_f' g39 rfl rfl) rfl (g_ff g38 rfl) rfl ?_
                    obtain rfl := Option.some.inj h
                    exact G_joined (sub_cons rfl (sub_skip (sub_skip (sub_skip (sub_skip (sub_skip sub_refl rfl) rfl) rfl) rfl) rfl)) (cv_sel [0, 1, 2, 3, 4, 5] 6 rfl rfl)
                refine G_ev (ev_pick_f' g38 rfl rfl) rfl rfl rfl ?_
                obtain rfl := Option.some.inj h
                exact G_joined (sub_cons rfl (sub_skip (sub_skip (sub_skip (sub_skip (sub_skip (sub_skip (sub_skip sub_refl rfl) rfl) rfl) rfl) rfl) rfl) rfl)) (cv_sel [0, 1, 2, 3, 4, 5] 6 rfl rfl)
            refine G_nil ?_
            refine nx_n ?_
            refine G_cond rfl (fun g41 => ?_) (fun g41 => ?_)
            · replace h := cond_t g41 h
              refine G_region ?_
              refine G_ev (ev_move rfl) rfl rfl rfl ?_
              refine G_ev (ev_move rfl) rfl rfl rfl ?_
              obtain ⟨q42, h⟩ := req_elim h
              refine G_ev (ev_mul rfl rfl q42.1 q42.2) rfl rfl rfl ?_
              obtain ⟨q43, h⟩ := req_elim h
              refine G_ev (ev_add rfl rfl q43.1 q43.2) rfl rfl rfl ?_
              refine G_opd (op_bslice (R := (rInt .i64)) (vss := [[.int .i64 ((2 * p22) + 2)]]) (xs := [(2 * p22) + 2]) rfl (bsl_35_1 _) rfl rfl (fun _ _ hr => .cons rfl All2.nil)) rfl rfl rfl ?_
              rintro _ _ ⟨A44, n44, c44, rfl, rfl⟩
              obtain ⟨q45, h⟩ := req_elim h
              refine G_opd (op_append 3 0 rfl rfl els_own rfl rfl Try.underlying35 zb3 rfl rfl q45) rfl rfl rfl ?_
              rintro _ _ ⟨A46, n46, c46, rfl, rfl⟩
              refine G_norm ([ownC (rInt .i64) 3 (.slice A44 n44 c44) ([(2 * p22) + 2] : List Int), slC rBool (.slice A3 n3 c3) a1, ownC (rInt .i64) 3 (.slice A17 n17 c17) y16, ownC (rInt .i64) 3 (.slice A46 n46 c46) (p21 ++ ([(2 * p22) + 2] : List Int)), slC rDCell (.slice A1 n1 c1) a0.Young, slC rDCell (.slice A2 n2 c2) a0.Old, boxC B4 42 [.slice A1 n1 c1, .slice A2 n2 c2]]) rfl ?_
              refine G_ev (ev_assign rfl) rfl rfl rfl ?_
              refine G_nil ?_
              refine bk_n ?_
              refine nx_n ?_
              exact ⟨_, _, ⟨p21 ++ ([(2 * p22) + 2] : List Int), A46, n46, c46, h, rfl, rfl⟩, sub_cons rfl (sub_cons rfl (sub_cons rfl (sub_cons rfl (sub_cons rfl (sub_cons rfl (sub_cons rfl (sub_cons rfl sub_nil))))))), cv_sel [1, 2, 3, 4, 5, 6] 7 rfl rfl⟩
            · replace h := cond_f g41 h
              refine G_skip ?_
              refine bk_n ?_
              refine nx_n ?_
              exact ⟨_, _, ⟨p21, A21, n21, c21, h, rfl, rfl⟩, sub_cons rfl (sub_cons rfl (sub_cons rfl (sub_cons rfl (sub_cons rfl (sub_cons rfl (sub_cons rfl (sub_cons rfl sub_nil))))))), cv_sel [0, 1, 2, 3, 4, 5] 6 rfl rfl⟩
        · rintro _ _ ⟨p26, A26, n26, c26, h, rfl, rfl⟩
          refine G_region ?_
          refine G_ev (ev_move rfl) rfl rfl rfl ?_
          obtain ⟨q47, h⟩ := req_elim h
          refine G_ev (ev_add rfl rfl q47.1 q47.2) rfl rfl rfl ?_
          refine G_ev (ev_assign rfl) rfl rfl rfl ?_
          refine G_nil ?_
          refine nx_n ?_
          exact ⟨m20, _, _, Nat.lt_succ_self _, ⟨p26, p22 + 1, A26, n26, c26, h, rfl, rfl⟩, sub_cons rfl (sub_cons rfl (sub_cons rfl (sub_cons rfl (sub_cons rfl (sub_cons rfl (sub_cons rfl (sub_cons rfl sub_nil))))))), cv_sel [0, 1, 2, 3, 4, 5] 6 rfl rfl⟩
      · replace h := cond_f g24 h
        refine G_exit ?_
        refine nx_e ?_
        refine nx_e ?_
        refine bk_x ?_
        refine nx_n ?_
        exact ⟨_, _, ⟨p21, A21, n21, c21, h, rfl, rfl⟩, sub_cons rfl (sub_cons rfl (sub_cons rfl (sub_cons rfl (sub_cons rfl (sub_cons rfl sub_nil))))), cv_sel [1, 2, 3, 4, 5] 6 rfl rfl⟩
    · rintro _ _ ⟨p19, A19, n19, c19, h, rfl, rfl⟩
      refine G_seq ?_
      refine G_seq ?_
      refine G_region ?_
      refine G_ev (ev_move rfl) rfl rfl rfl ?_
      refine G_rd (rd_len 0 rfl els_own rfl Try.underlying35) rfl rfl rfl ?_
      refine G_ev (ev_eq rfl rfl) rfl rfl rfl ?_
      refine G_nil ?_
      refine nx_n ?_
      refine G_cond rfl (fun g48 => ?_) (fun g48 => ?_)
      · replace h := cond_t g48 h
        refine G_seq ?_
        refine G_region ?_
        refine G_rd (rd_boxS (us := [.slice A1 n1 c1, .slice A2 n2 c2]) 4 rfl rfl agg42 rfl) rfl rfl rfl ?_
        refine G_ev (ev_move rfl) rfl rfl rfl ?_
        obtain ⟨y49, hy49, h⟩ := bind_elim h
        refine G_opd (op_callR (remset_Right_ok hy49) call21 rfl (mem_cons (lent_ro (i := 2) rfl rfl) (mem_cons (lent_ro (i := 3) rfl rfl) (mem_cons (lent_own (i := 1) rfl) mem_nil))) remset_Right_free) rfl rfl rfl ?_
        rintro _ _ ⟨_, ⟨rfl, rfl⟩, rfl⟩
        refine G_ev (ev_move rfl) rfl rfl rfl ?_
        obtain ⟨b50, hb50, h⟩ := bind_elim h
        refine G_segb 2 89 b50 ?_ ?_
        · clear h
          refine G_case 87 rfl (fun g50 => ?_) (fun g50 => ?_)
          · have h := cond_t g50 hb50
            obtain ⟨y51, hy51, h⟩ := bind_elim h
            refine G_opd (op_callR (pantomimelaw21_lives_ok hy51) call9 rfl (mem_nil) pantomimelaw21_lives_free) rfl (g_tt g50 rfl) rfl ?_
            rintro _ _ ⟨_, ⟨rfl, rfl⟩, rfl⟩
            refine G_ev (ev_pick_t' g50 rfl rfl) rfl rfl rfl ?_
            obtain rfl := Option.some.inj h
            exact G_joined (sub_cons rfl (sub_skip (sub_skip sub_refl rfl) rfl)) (cv_sel [0, 1, 2, 3, 4] 5 rfl rfl)
          · have h := cond_f g50 hb50
            refine G_no (g_tf g50 rfl) rfl ?_
            refine G_ev (ev_pick_f' g50 rfl rfl) rfl rfl rfl ?_
            obtain rfl := Option.some.inj h
            exact G_joined (sub_cons rfl (sub_skip (sub_skip sub_refl rfl) rfl)) (cv_sel [0, 1, 2, 3, 4] 5 rfl rfl)
        refine G_ev (ev_assign rfl) rfl rfl rfl ?_
        refine G_nil ?_
        refine nx_n ?_
        refine G_ret ?_
        refine nx_r ?_
        obtain rfl := Option.some.inj h
        exact endG1 rfl rfl (cv_sel [] 5 rfl rfl) ⟨rfl, rfl⟩
      · replace h := cond_f g48 h
        refine G_skip ?_
        refine nx_n ?_
        refine G_seq ?_
        refine G_region ?_
        refine G_ev (ev_move rfl) rfl rfl rfl ?_
        refine G_ev (ev_move rfl) rfl rfl rfl ?_
        refine G_ev (ev_cv rfl rfl Try.underlying52) rfl rfl rfl ?_
        refine G_ev (ev_move rfl) rfl rfl rfl ?_
        refine G_rd (rd_len 0 rfl els_own rfl Try.underlying35) rfl rfl rfl ?_
        refine G_ev (ev_cv rfl rfl Try.underlying52) rfl rfl rfl ?_
        obtain ⟨q52, h⟩ := req_elim h
        refine G_ev (ev_remK rfl rfl rfl q52) rfl rfl rfl ?_
        obtain ⟨x53, hx53, h⟩ := bind_elim h
        obtain ⟨lx53, ux53, hx53⟩ := getE_elim hx53
        refine G_rd (rd_idxK 0 rfl els_own rfl rfl Try.underlying35 size3 lx53 ux53) rfl rfl rfl ?_
        refine G_rd (rd_elem1 (u := .int .i64 x53) 0 rfl els_own rfl hx53 one3 (fun _ _ _ h => by rw [show _ = _ from h]; rfl)) rfl rfl rfl ?_
        refine G_ev (ev_assign rfl) rfl rfl rfl ?_
        refine G_nil ?_
        refine nx_n ?_
        refine G_joinF (fun s L => ∃ (p55 : (List Int)) (A55 : Option Addr) (n55 c55 : Nat), pantomimelaw21_RemsetWide_j54 N p19 a0 p55 = some r ∧ s = [(3, .pointer (some ⟨B4, 0, none⟩)), (6, .bool false), (9, .slice A19 n19 c19), (10, .slice A55 n55 c55)] ∧ L = [ownC (rInt .i64) 3 (.slice A19 n19 c19) p19, ownC (rInt .i64) 3 (.slice A55 n55 c55) p55, slC rDCell (.slice A1 n1 c1) a0.Young, slC rDCell (.slice A2 n2 c2) a0.Old, boxC B4 42 [.slice A1 n1 c1, .slice A2 n2 c2]]) ?_ ?_
        · refine G_seq ?_
          refine G_region ?_
          refine G_ev (ev_assign rfl) rfl rfl rfl ?_
          refine G_nil ?_
          refine nx_n ?_
          refine G_block ?_
          refine G_loopF (fun m s L => ∃ (p57 : (List Int)) (p58 : Int) (A57 : Option Addr) (n57 c57 : Nat), pantomimelaw21_RemsetWide_l56 N x53 p19 a0 m p57 p58 = some r ∧ s = [(3, .pointer (some ⟨B4, 0, none⟩)), (6, .bool false), (9, .slice A19 n19 c19), (10, .slice A57 n57 c57), (14, .int .i64 x53), (15, .int .i64 p58)] ∧ L = [ownC (rInt .i64) 3 (.slice A19 n19 c19) p19, ownC (rInt .i64) 3 (.slice A57 n57 c57) p57, slC rDCell (.slice A1 n1 c1) a0.Young, slC rDCell (.slice A2 n2 c2) a0.Old, boxC B4 42 [.slice A1 n1 c1, .slice A2 n2 c2]]) N _ _ ⟨[], 0, none, 0, 0, h, rfl, rfl⟩ (sub_cons rfl (sub_cons rfl (sub_cons rfl (sub_cons rfl (sub_cons rfl (sub_cons rfl sub_nil)))))) ((cv_nil (rInt .i64) 3 _).trans (cv_sel [2, 0, 3, 4, 5] 6 rfl rfl)) ?_
          rintro (_ | m56) _ _ ⟨p57, p58, A57, n57, c57, h, rfl, rfl⟩
          · exact none_some h
          rw [pantomimelaw21_RemsetWide_l56_s] at h
          refine G_seq ?_
          refine G_seq ?_
          refine G_region ?_
          refine G_ev (ev_move rfl) rfl rfl rfl ?_
          refine G_ev (ev_move rfl) rfl rfl rfl ?_
          refine G_rd (rd_len 0 rfl els_own rfl Try.underlying35) rfl rfl rfl ?_
          refine G_ev (ev_lt rfl rfl) rfl rfl rfl ?_
          refine G_nil ?_
          refine nx_n ?_
          refine G_cond rfl (fun g60 => ?_) (fun g60 => ?_)
          · replace h := cond_t g60 h
            refine G_skip ?_
            refine nx_n ?_
            refine G_joinF (fun s L => ∃ (p62 : (List Int)) (A62 : Option Addr) (n62 c62 : Nat), pantomimelaw21_RemsetWide_j61 N (pantomimelaw21_RemsetWide_l56 N x53 p19 a0 m56) x53 p58 p19 a0 p62 = some r ∧ s = [(3, .pointer (some ⟨B4, 0, none⟩)), (6, .bool false), (9, .slice A19 n19 c19), (10, .slice A62 n62 c62), (14, .int .i64 x53), (15, .int .i64 p58)] ∧ L = [ownC (rInt .i64) 3 (.slice A19 n19 c19) p19, ownC (rInt .i64) 3 (.slice A62 n62 c62) p62, slC rDCell (.slice A1 n1 c1) a0.Young, slC rDCell (.slice A2 n2 c2) a0.Old, boxC B4 42 [.slice A1 n1 c1, .slice A2 n2 c2]]) ?_ ?_
            · refine G_block ?_
              refine G_seq ?_
              refine G_region ?_
              refine G_ev (ev_move rfl) rfl rfl rfl ?_
              refine G_ev (ev_move rfl) rfl rfl rfl ?_
              obtain ⟨x63, hx63, h⟩ := bind_elim h
              obtain ⟨lx63, ux63, hx63⟩ := getE_elim hx63
              refine G_rd (rd_idx 0 rfl els_own rfl rfl Try.underlying35 size3 lx63 ux63) rfl rfl rfl ?_
              refine G_rd (rd_elem1 (u := .int .i64 x63) 0 rfl els_own rfl hx63 one3 (fun _ _ _ h => by rw [show _ = _ from h]; rfl)) rfl rfl rfl ?_
              refine G_ev (ev_move rfl) rfl rfl rfl ?_
              refine G_ev (ev_ne rfl rfl) rfl rfl rfl ?_
              refine G_nil ?_
              refine nx_n ?_
              refine G_cond rfl (fun g64 => ?_) (fun g64 => ?_)
              · replace h := cond_t g64 h
                refine G_region ?_
                refine G_ev (ev_move rfl) rfl rfl rfl ?_
                refine G_ev (ev_move rfl) rfl rfl rfl ?_
                refine G_ev (ev_move rfl) rfl rfl rfl ?_
                obtain ⟨x65, hx65, h⟩ := bind_elim h
                obtain ⟨lx65, ux65, hx65⟩ := getE_elim hx65
                refine G_rd (rd_idx 0 rfl els_own rfl rfl Try.underlying35 size3 lx65 ux65) rfl rfl rfl ?_
                refine G_rd (rd_elem1 (u := .int .i64 x65) 0 rfl els_own rfl hx65 one3 (fun _ _ _ h => by rw [show _ = _ from h]; rfl)) rfl rfl rfl ?_
                refine G_opd (op_bslice (R := (rInt .i64)) (vss := [[.int .i64 x65]]) (xs := [x65]) rfl (bsl_35_1 _) rfl rfl (fun _ _ hr => .cons rfl All2.nil)) rfl rfl rfl ?_
                rintro _ _ ⟨A66, n66, c66, rfl, rfl⟩
                obtain ⟨q67, h⟩ := req_elim h
                refine G_opd (op_append 2 0 rfl rfl els_own rfl rfl Try.underlying35 zb3 rfl rfl q67) rfl rfl rfl ?_
                rintro _ _ ⟨A68, n68, c68, rfl, rfl⟩
                refine G_norm ([ownC (rInt .i64) 3 (.slice A66 n66 c66) ([x65] : List Int), ownC (rInt .i64) 3 (.slice A19 n19 c19) p19, ownC (rInt .i64) 3 (.slice A68 n68 c68) (p57 ++ ([x65] : List Int)), slC rDCell (.slice A1 n1 c1) a0.Young, slC rDCell (.slice A2 n2 c2) a0.Old, boxC B4 42 [.slice A1 n1 c1, .slice A2 n2 c2]]) rfl ?_
                refine G_ev (ev_assign rfl) rfl rfl rfl ?_
                refine G_nil ?_
                refine bk_n ?_
                refine nx_n ?_
                exact ⟨_, _, ⟨p57 ++ ([x65] : List Int), A68, n68, c68, h, rfl, rfl⟩, sub_cons rfl (sub_cons rfl (sub_cons rfl (sub_cons rfl (sub_cons rfl (sub_cons rfl sub_nil))))), cv_sel [1, 2, 3, 4, 5] 6 rfl rfl⟩
              · replace h := cond_f g64 h
                refine G_skip ?_
                refine bk_n ?_
                refine nx_n ?_
                exact ⟨_, _, ⟨p57, A57, n57, c57, h, rfl, rfl⟩, sub_cons rfl (sub_cons rfl (sub_cons rfl (sub_cons rfl (sub_cons rfl (sub_cons rfl sub_nil))))), cv_sel [0, 1, 2, 3, 4] 5 rfl rfl⟩
            · rintro _ _ ⟨p62, A62, n62, c62, h, rfl, rfl⟩
              refine G_region ?_
              refine G_ev (ev_move rfl) rfl rfl rfl ?_
              obtain ⟨q69, h⟩ := req_elim h
              refine G_ev (ev_add rfl rfl q69.1 q69.2) rfl rfl rfl ?_
              refine G_ev (ev_assign rfl) rfl rfl rfl ?_
              refine G_nil ?_
              refine nx_n ?_
              exact ⟨m56, _, _, Nat.lt_succ_self _, ⟨p62, p58 + 1, A62, n62, c62, h, rfl, rfl⟩, sub_cons rfl (sub_cons rfl (sub_cons rfl (sub_cons rfl (sub_cons rfl (sub_cons rfl sub_nil))))), cv_sel [0, 1, 2, 3, 4] 5 rfl rfl⟩
          · replace h := cond_f g60 h
            refine G_exit ?_
            refine nx_e ?_
            refine nx_e ?_
            refine bk_x ?_
            refine nx_n ?_
            exact ⟨_, _, ⟨p57, A57, n57, c57, h, rfl, rfl⟩, sub_cons rfl (sub_cons rfl (sub_cons rfl (sub_cons rfl sub_nil))), cv_sel [0, 1, 2, 3, 4] 5 rfl rfl⟩
        · rintro _ _ ⟨p55, A55, n55, c55, h, rfl, rfl⟩
          refine G_seq ?_
          refine G_region ?_
          refine G_rd (rd_boxS (us := [.slice A1 n1 c1, .slice A2 n2 c2]) 4 rfl rfl agg42 rfl) rfl rfl rfl ?_
          refine G_ev (ev_move rfl) rfl rfl rfl ?_
          obtain ⟨y70, hy70, h⟩ := bind_elim h
          refine G_opd (op_callR (remset_Right_ok hy70) call21 rfl (mem_cons (lent_ro (i := 2) rfl rfl) (mem_cons (lent_ro (i := 3) rfl rfl) (mem_cons (lent_own (i := 0) rfl) mem_nil))) remset_Right_free) rfl rfl rfl ?_
          rintro _ _ ⟨_, ⟨rfl, rfl⟩, rfl⟩
          refine G_ev (ev_move rfl) rfl rfl rfl ?_
          obtain ⟨b71, hb71, h⟩ := bind_elim h
          refine G_segb 5 126 b71 ?_ ?_
          · clear h
            refine G_case 121 rfl (fun g71 => ?_) (fun g71 => ?_)
            · have h := cond_t g71 hb71
              refine G_rd (rd_boxS (us := [.slice A1 n1 c1, .slice A2 n2 c2]) 4 rfl rfl agg42 rfl) rfl (g_tt g71 rfl) rfl ?_
              refine G_ev (ev_move rfl) rfl (g_tt g71 rfl) rfl ?_
              obtain ⟨y72, hy72, h⟩ := bind_elim h
              refine G_opd (op_callR (remset_Right_ok hy72) call21 rfl (mem_cons (lent_ro (i := 2) rfl rfl) (mem_cons (lent_ro (i := 3) rfl rfl) (mem_cons (lent_own (i := 1) rfl) mem_nil))) remset_Right_free) rfl (g_tt g71 rfl) rfl ?_
              rintro _ _ ⟨_, ⟨rfl, rfl⟩, rfl⟩
              refine G_ev (ev_not rfl) rfl (g_tt g71 rfl) rfl ?_
              refine G_ev (ev_pick_t' g71 rfl rfl) rfl rfl rfl ?_
              obtain rfl := Option.some.inj h
              exact G_joined (sub_cons rfl (sub_skip (sub_skip (sub_skip (sub_skip (sub_skip sub_refl rfl) rfl) rfl) rfl) rfl)) (cv_sel [0, 1, 2, 3, 4] 5 rfl rfl)
            · have h := cond_f g71 hb71
              refine G_no (g_tf g71 rfl) rfl ?_
              refine G_no (g_tf g71 rfl) rfl ?_
              refine G_no (g_tf g71 rfl) rfl ?_
              refine G_no (g_tf g71 rfl) rfl ?_
              refine G_ev (ev_pick_f' g71 rfl rfl) rfl rfl rfl ?_
              obtain rfl := Option.some.inj h
              exact G_joined (sub_cons rfl (sub_skip (sub_skip (sub_skip (sub_skip (sub_skip sub_refl rfl) rfl) rfl) rfl) rfl)) (cv_sel [0, 1, 2, 3, 4] 5 rfl rfl)
          refine G_ev (ev_move rfl) rfl rfl rfl ?_
          obtain ⟨b73, hb73, h⟩ := bind_elim h
          refine G_segb 2 129 b73 ?_ ?_
          · clear h
            refine G_case 127 rfl (fun g73 => ?_) (fun g73 => ?_)
            · have h := cond_t g73 hb73
              obtain ⟨y74, hy74, h⟩ := bind_elim h
              refine G_opd (op_callR (pantomimelaw21_lives_ok hy74) call9 rfl (mem_nil) pantomimelaw21_lives_free) rfl (g_tt g73 rfl) rfl ?_
              rintro _ _ ⟨_, ⟨rfl, rfl⟩, rfl⟩
              refine G_ev (ev_pick_t' g73 rfl rfl) rfl rfl rfl ?_
              obtain rfl := Option.some.inj h
              exact G_joined (sub_cons rfl (sub_skip (sub_skip sub_refl rfl) rfl)) (cv_sel [0, 1, 2, 3, 4] 5 rfl rfl)
            · have h := cond_f g73 hb73
              refine G_no (g_tf g73 rfl) rfl ?_
              refine G_ev (ev_pick_f' g73 rfl rfl) rfl rfl rfl ?_
              obtain rfl := Option.some.inj h
              exact G_joined (sub_cons rfl (sub_skip (sub_skip sub_refl rfl) rfl)) (cv_sel [0, 1, 2, 3, 4] 5 rfl rfl)
          refine G_ev (ev_assign rfl) rfl rfl rfl ?_
          refine G_nil ?_
          refine nx_n ?_
          refine G_ret ?_
          obtain rfl := Option.some.inj h
          exact endG1 rfl rfl (cv_sel [] 5 rfl rfl) ⟨rfl, rfl⟩
theorem pantomimelaw21_RemsetWide_free {r : Bool} : ∀ v post, ((fun (u : Value) (post : List Chunk) => u = .bool r ∧ post = [])) v post → ∀ c ∈ post, Free c := by
  rintro _ _ ⟨rfl, rfl⟩; exact mem_nil
end Go.Proofs.Ytancgbfkpoeffaa

