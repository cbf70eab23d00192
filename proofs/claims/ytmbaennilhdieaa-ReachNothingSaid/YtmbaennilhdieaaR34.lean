/- Pure functions and contracts of Go functions (printed by all3.py). -/
import Derived.Test.YtmbaennilhdieaaR33
namespace Go.Proofs.Ytmbaennilhdieaa
open Go.RowKit
set_option maxRecDepth 20000

def weak_kept_b12 (N : Nat) (ff : DValue → Option Bool) (y6 : (DCell)) (x12 : DValue × DValue) : ((List DValue)) → Option (Option Exit × (List DValue))
  | p13 => (ff x12.1).bind fun y18 => bif y18 then (req (fitsL (p13.length + ([x12.1, x12.2] : List DValue).length)) (some (none, p13 ++ ([x12.1, x12.2] : List DValue)))) else (some (none, p13))
def weak_kept_O (N : Nat) (a0 : DCell) (ff : DValue → Option Bool) : Option DCell :=
  (cell_Copy_O N a0).bind fun y6 => (weak_entries_O N a0).bind fun y10 => (weak_entries_c1_O N a0 (liftR (fun x st => weak_kept_b12 N ff y6 x st)) (none, [])).bind fun y14 => caseX y14.1 (some (⟨y6.Kind, y6.Shape, y6.Flags, y6.Age, y6.Slots, y14.2⟩ : DCell)) none (fun _ => none)
theorem weak_kept_ok {N : Nat} {a0 : DCell} {ff : DValue → Option Bool} {r : DCell} (h : weak_kept_O N a0 ff = some r) {A1 : Option Addr} {n1 c1 : Nat} {A2 : Option Addr} {n2 c2 : Nat} {vf : Value} {G : List Chunk} (hf : FnOk Try.prog vf G (fun x => [.agg #[.int .i64 x.Kind, .int .i64 x.N, .string x.S]]) (fun r => .bool r) ff) : Okc Try.prog 113 [.agg #[.int .i64 a0.Kind, .int .i64 a0.Shape, .int .i64 a0.Flags, .int .i64 a0.Age, .slice A1 n1 c1, .slice A2 n2 c2], vf] (slC rDValue (.slice A1 n1 c1) a0.Slots :: slC rDValue (.slice A2 n2 c2) a0.More :: G) (fun (u : Value) (post : List Chunk) => ∃ A0 n0 c0 A1 n1 c1, u = .agg #[.int .i64 r.Kind, .int .i64 r.Shape, .int .i64 r.Flags, .int .i64 r.Age, .slice A0 n0 c0, .slice A1 n1 c1] ∧ post = [ownC rDValue 38 (.slice A0 n0 c0) r.Slots, ownC rDValue 38 (.slice A1 n1 c1) r.More]) := by
  refine ok_E Try.func113 rfl rfl ?_
  simp only [envOf]
  refine run ?_
  refine G_opd (op_box rfl rfl) rfl rfl rfl ?_
  rintro _ _ ⟨B3, rfl, rfl⟩
  refine G_opd (op_box rfl (fn_cells hf)) rfl rfl rfl ?_
  rintro _ _ ⟨B4, rfl, rfl⟩
  refine G_opd (op_alloc zero42 rfl) rfl rfl rfl ?_
  rintro _ _ ⟨B5, rfl, rfl⟩
  refine run ?_
  refine G_rd (rd_boxS (us := [.int .i64 a0.Kind, .int .i64 a0.Shape, .int .i64 a0.Flags, .int .i64 a0.Age, .slice A1 n1 c1, .slice A2 n2 c2]) 2 rfl rfl agg42 rfl) rfl rfl rfl ?_
  obtain ⟨y6, hy6, h⟩ := bind_elim h
  refine G_opd (op_call (cell_Copy_ok hy6) call81 rfl (cv_take [3, 4] [] [0, 1, 2, 3, 4] 5 rfl)) rfl rfl rfl ?_
  rintro _ _ ⟨_, ⟨A7, n7, c7, A8, n8, c8, rfl, rfl⟩, rfl⟩
  refine G_norm (ownC rDValue 38 (.slice A7 n7 c7) y6.Slots :: ownC rDValue 38 (.slice A8 n8 c8) y6.More :: boxC B5 42 [.int .i64 0, .int .i64 0, .int .i64 0, .int .i64 0, .slice none 0 0, .slice none 0 0] :: boxC B4 70 [vf] :: boxC B3 42 [.int .i64 a0.Kind, .int .i64 a0.Shape, .int .i64 a0.Flags, .int .i64 a0.Age, .slice A1 n1 c1, .slice A2 n2 c2] :: slC rDValue (.slice A1 n1 c1) a0.Slots :: slC rDValue (.slice A2 n2 c2) a0.More :: G) rfl ?_
  refine G_opd (op_alloc zero42 rfl) rfl rfl rfl ?_
  rintro _ _ ⟨B9, rfl, rfl⟩
  refine G_opn (op_store (us := [.int .i64 y6.Kind, .int .i64 y6.Shape, .int .i64 y6.Flags, .int .i64 y6.Age, .slice A7 n7 c7, .slice A8 n8 c8]) (cs' := [.int .i64 y6.Kind, .int .i64 y6.Shape, .int .i64 y6.Flags, .int .i64 y6.Age, .slice A7 n7 c7, .slice A8 n8 c8]) 0 rfl rfl rfl rfl size42 rfl rfl rfl) rfl rfl ?_
  rintro _ _ rfl
  refine G_norm (boxC B9 42 [.int .i64 y6.Kind, .int .i64 y6.Shape, .int .i64 y6.Flags, .int .i64 y6.Age, .slice A7 n7 c7, .slice A8 n8 c8] :: ownC rDValue 38 (.slice A7 n7 c7) y6.Slots :: ownC rDValue 38 (.slice A8 n8 c8) y6.More :: boxC B5 42 [.int .i64 0, .int .i64 0, .int .i64 0, .int .i64 0, .slice none 0 0, .slice none 0 0] :: boxC B4 70 [vf] :: boxC B3 42 [.int .i64 a0.Kind, .int .i64 a0.Shape, .int .i64 a0.Flags, .int .i64 a0.Age, .slice A1 n1 c1, .slice A2 n2 c2] :: slC rDValue (.slice A1 n1 c1) a0.Slots :: slC rDValue (.slice A2 n2 c2) a0.More :: G) rfl ?_
  refine run ?_
  refine G_opn (op_store (us := [.slice none 0 0]) (cs' := [.int .i64 y6.Kind, .int .i64 y6.Shape, .int .i64 y6.Flags, .int .i64 y6.Age, .slice A7 n7 c7, .slice none 0 0]) 0 rfl rfl rfl rfl size25 rfl rfl rfl) rfl rfl ?_
  rintro _ _ rfl
  refine G_norm (boxC B9 42 [.int .i64 y6.Kind, .int .i64 y6.Shape, .int .i64 y6.Flags, .int .i64 y6.Age, .slice A7 n7 c7, .slice none 0 0] :: ownC rDValue 38 (.slice A7 n7 c7) y6.Slots :: ownC rDValue 38 (.slice A8 n8 c8) y6.More :: boxC B5 42 [.int .i64 0, .int .i64 0, .int .i64 0, .int .i64 0, .slice none 0 0, .slice none 0 0] :: boxC B4 70 [vf] :: boxC B3 42 [.int .i64 a0.Kind, .int .i64 a0.Shape, .int .i64 a0.Flags, .int .i64 a0.Age, .slice A1 n1 c1, .slice A2 n2 c2] :: slC rDValue (.slice A1 n1 c1) a0.Slots :: slC rDValue (.slice A2 n2 c2) a0.More :: G) rfl ?_
  refine run ?_
  refine G_seq ?_
  refine run ?_
  refine G_rd (rd_boxS (us := [.int .i64 a0.Kind, .int .i64 a0.Shape, .int .i64 a0.Flags, .int .i64 a0.Age, .slice A1 n1 c1, .slice A2 n2 c2]) 5 rfl rfl agg42 rfl) rfl rfl rfl ?_
  obtain ⟨y10, hy10, h⟩ := bind_elim h
  refine G_opd (op_callR (weak_entries_ok hy10) call135 rfl (mem_cons (lent_ro (i := 6) rfl rfl) (mem_cons (lent_ro (i := 7) rfl rfl) mem_nil)) weak_entries_free) rfl rfl rfl ?_
  rintro _ _ ⟨_, ⟨B11, rfl, rfl⟩, rfl⟩
  refine G_nil ?_
  refine nx_n ?_
  refine G_sub ?_ sub_refl (cv_frzbox 0 rfl)
  refine Wq_norm (rboxC B11 42 [.int .i64 a0.Kind, .int .i64 a0.Shape, .int .i64 a0.Flags, .int .i64 a0.Age, .slice A1 n1 c1, .slice A2 n2 c2] :: boxC B9 42 [.int .i64 y6.Kind, .int .i64 y6.Shape, .int .i64 y6.Flags, .int .i64 y6.Age, .slice A7 n7 c7, .slice none 0 0] :: ownC rDValue 38 (.slice A7 n7 c7) y6.Slots :: ownC rDValue 38 (.slice A8 n8 c8) y6.More :: boxC B5 42 [.int .i64 0, .int .i64 0, .int .i64 0, .int .i64 0, .slice none 0 0, .slice none 0 0] :: boxC B4 70 [vf] :: boxC B3 42 [.int .i64 a0.Kind, .int .i64 a0.Shape, .int .i64 a0.Flags, .int .i64 a0.Age, .slice A1 n1 c1, .slice A2 n2 c2] :: slC rDValue (.slice A1 n1 c1) a0.Slots :: slC rDValue (.slice A2 n2 c2) a0.More :: G) rfl ?_
  obtain ⟨y14, hy14, h⟩ := bind_elim h
  refine G_rangeX (en := (fun x => [.agg #[.int .i64 x.1.Kind, .int .i64 x.1.N, .string x.1.S], .agg #[.int .i64 x.2.Kind, .int .i64 x.2.N, .string x.2.S]])) (fun x st => weak_kept_b12 N ff y6 x st) (fun (st : (List DValue)) (mz : ((Option Addr × Nat × Nat))) => [boxC B4 70 [vf], boxC B5 42 [.int .i64 0, .int .i64 0, .int .i64 0, .int .i64 0, .slice none 0 0, .slice none 0 0], ownC rDValue 38 (.slice A7 n7 c7) y6.Slots, ownC rDValue 38 (.slice mz.1 mz.2.1 mz.2.2) st, boxC B9 42 [.int .i64 y6.Kind, .int .i64 y6.Shape, .int .i64 y6.Flags, .int .i64 y6.Age, .slice A7 n7 c7, .slice mz.1 mz.2.1 mz.2.2]] ++ G) [rboxC B11 42 [.int .i64 a0.Kind, .int .i64 a0.Shape, .int .i64 a0.Flags, .int .i64 a0.Age, .slice A1 n1 c1, .slice A2 n2 c2], slC rDValue (.slice A1 n1 c1) a0.Slots, slC rDValue (.slice A2 n2 c2) a0.More] ([]) ((none, 0, 0)) rfl rfl call150 rfl (fun _ => rfl) (fun l G hY => (weak_entries_c1_ok hy14 hY).mono fun _ _ hh => hh.2) ((cv_nil rDValue 38 _).trans (cv_take [1, 8, 9] [] [6, 5, 3, 0, 2] 10 rfl)) h ?_ ?_ ?_ ?_
  · rintro l x12 p13 je sr12 ⟨A13, n13, c13⟩ h
    replace h : weak_kept_b12 N ff y6 x12 p13 = some (je, sr12) := h
    simp only [envR, List.zip_cons_cons, List.zip_nil_left, List.zip_nil_right, List.reverse_cons, List.reverse_nil, List.nil_append, List.cons_append]
    refine run ?_
    refine G_opd (op_alloc zero38 rfl) rfl rfl rfl ?_
    rintro _ _ ⟨B16, rfl, rfl⟩
    refine G_opn (op_store (us := [.int .i64 x12.1.Kind, .int .i64 x12.1.N, .string x12.1.S]) (cs' := [.int .i64 x12.1.Kind, .int .i64 x12.1.N, .string x12.1.S]) 0 rfl rfl rfl rfl size38 rfl rfl rfl) rfl rfl ?_
    rintro _ _ rfl
    refine G_norm (boxC B16 38 [.int .i64 x12.1.Kind, .int .i64 x12.1.N, .string x12.1.S] :: boxC B4 70 [vf] :: boxC B5 42 [.int .i64 0, .int .i64 0, .int .i64 0, .int .i64 0, .slice none 0 0, .slice none 0 0] :: ownC rDValue 38 (.slice A7 n7 c7) y6.Slots :: ownC rDValue 38 (.slice A13 n13 c13) p13 :: boxC B9 42 [.int .i64 y6.Kind, .int .i64 y6.Shape, .int .i64 y6.Flags, .int .i64 y6.Age, .slice A7 n7 c7, .slice A13 n13 c13] :: G) rfl ?_
    refine run ?_
    refine G_opd (op_alloc zero38 rfl) rfl rfl rfl ?_
    rintro _ _ ⟨B17, rfl, rfl⟩
    refine G_opn (op_store (us := [.int .i64 x12.2.Kind, .int .i64 x12.2.N, .string x12.2.S]) (cs' := [.int .i64 x12.2.Kind, .int .i64 x12.2.N, .string x12.2.S]) 0 rfl rfl rfl rfl size38 rfl rfl rfl) rfl rfl ?_
    rintro _ _ rfl
    refine G_norm (boxC B17 38 [.int .i64 x12.2.Kind, .int .i64 x12.2.N, .string x12.2.S] :: boxC B16 38 [.int .i64 x12.1.Kind, .int .i64 x12.1.N, .string x12.1.S] :: boxC B4 70 [vf] :: boxC B5 42 [.int .i64 0, .int .i64 0, .int .i64 0, .int .i64 0, .slice none 0 0, .slice none 0 0] :: ownC rDValue 38 (.slice A7 n7 c7) y6.Slots :: ownC rDValue 38 (.slice A13 n13 c13) p13 :: boxC B9 42 [.int .i64 y6.Kind, .int .i64 y6.Shape, .int .i64 y6.Flags, .int .i64 y6.Age, .slice A7 n7 c7, .slice A13 n13 c13] :: G) rfl ?_
    refine run ?_
    refine G_rd (rd_boxS (us := [.int .i64 x12.1.Kind, .int .i64 x12.1.N, .string x12.1.S]) 1 rfl rfl agg38 rfl) rfl rfl rfl ?_
    obtain ⟨y18, hy18, h⟩ := bind_elim h
    refine G_opd (op_callf (a := x12.1) [boxC B17 38 [.int .i64 x12.2.Kind, .int .i64 x12.2.N, .string x12.2.S], boxC B16 38 [.int .i64 x12.1.Kind, .int .i64 x12.1.N, .string x12.1.S], boxC B4 70 [vf], boxC B5 42 [.int .i64 0, .int .i64 0, .int .i64 0, .int .i64 0, .slice none 0 0, .slice none 0 0], ownC rDValue 38 (.slice A7 n7 c7) y6.Slots, ownC rDValue 38 (.slice A13 n13 c13) p13, boxC B9 42 [.int .i64 y6.Kind, .int .i64 y6.Shape, .int .i64 y6.Flags, .int .i64 y6.Age, .slice A7 n7 c7, .slice A13 n13 c13]] hf hy18 rfl rfl) rfl rfl rfl ?_
    rintro _ _ ⟨rfl, rfl⟩
    refine G_norm (boxC B17 38 [.int .i64 x12.2.Kind, .int .i64 x12.2.N, .string x12.2.S] :: boxC B16 38 [.int .i64 x12.1.Kind, .int .i64 x12.1.N, .string x12.1.S] :: boxC B4 70 [vf] :: boxC B5 42 [.int .i64 0, .int .i64 0, .int .i64 0, .int .i64 0, .slice none 0 0, .slice none 0 0] :: ownC rDValue 38 (.slice A7 n7 c7) y6.Slots :: ownC rDValue 38 (.slice A13 n13 c13) p13 :: boxC B9 42 [.int .i64 y6.Kind, .int .i64 y6.Shape, .int .i64 y6.Flags, .int .i64 y6.Age, .slice A7 n7 c7, .slice A13 n13 c13] :: G) rfl ?_
    refine run ?_
    refine G_cond rfl (fun g19 => ?_) (fun g19 => ?_)
    · replace h := cond_t g19 h
      refine run ?_
      refine G_rd (rd_boxS (us := [.int .i64 x12.1.Kind, .int .i64 x12.1.N, .string x12.1.S]) 1 rfl rfl agg38 rfl) rfl rfl rfl ?_
      refine G_rd (rd_boxS (us := [.int .i64 x12.2.Kind, .int .i64 x12.2.N, .string x12.2.S]) 0 rfl rfl agg38 rfl) rfl rfl rfl ?_
      refine G_opd (op_bslice (R := rDValue) (vss := [[.int .i64 x12.1.Kind, .int .i64 x12.1.N, .string x12.1.S], [.int .i64 x12.2.Kind, .int .i64 x12.2.N, .string x12.2.S]]) (xs := [x12.1, x12.2]) rfl (bsl_25_2 _ _ _ _ _ _) rfl rfl (fun _ _ hr => .cons rfl (.cons rfl All2.nil))) rfl rfl rfl ?_
      rintro _ _ ⟨A20, n20, c20, rfl, rfl⟩
      obtain ⟨q21, h⟩ := req_elim h
      refine G_opd (op_append 6 0 rfl rfl els_own rfl rfl Try.underlying25 zb38 rfl rfl q21) rfl rfl rfl ?_
      rintro _ _ ⟨A22, n22, c22, rfl, rfl⟩
      refine G_norm (ownC rDValue 38 (.slice A20 n20 c20) ([x12.1, x12.2] : List DValue) :: boxC B17 38 [.int .i64 x12.2.Kind, .int .i64 x12.2.N, .string x12.2.S] :: boxC B16 38 [.int .i64 x12.1.Kind, .int .i64 x12.1.N, .string x12.1.S] :: boxC B4 70 [vf] :: boxC B5 42 [.int .i64 0, .int .i64 0, .int .i64 0, .int .i64 0, .slice none 0 0, .slice none 0 0] :: ownC rDValue 38 (.slice A7 n7 c7) y6.Slots :: ownC rDValue 38 (.slice A22 n22 c22) (p13 ++ ([x12.1, x12.2] : List DValue)) :: boxC B9 42 [.int .i64 y6.Kind, .int .i64 y6.Shape, .int .i64 y6.Flags, .int .i64 y6.Age, .slice A7 n7 c7, .slice A13 n13 c13] :: G) rfl ?_
      refine run ?_
      refine G_opn (op_store (us := [.slice A22 n22 c22]) (cs' := [.int .i64 y6.Kind, .int .i64 y6.Shape, .int .i64 y6.Flags, .int .i64 y6.Age, .slice A7 n7 c7, .slice A22 n22 c22]) 7 rfl rfl rfl rfl size25 rfl rfl rfl) rfl rfl ?_
      rintro _ _ rfl
      refine G_norm (ownC rDValue 38 (.slice A20 n20 c20) ([x12.1, x12.2] : List DValue) :: boxC B17 38 [.int .i64 x12.2.Kind, .int .i64 x12.2.N, .string x12.2.S] :: boxC B16 38 [.int .i64 x12.1.Kind, .int .i64 x12.1.N, .string x12.1.S] :: boxC B4 70 [vf] :: boxC B5 42 [.int .i64 0, .int .i64 0, .int .i64 0, .int .i64 0, .slice none 0 0, .slice none 0 0] :: ownC rDValue 38 (.slice A7 n7 c7) y6.Slots :: ownC rDValue 38 (.slice A22 n22 c22) (p13 ++ ([x12.1, x12.2] : List DValue)) :: boxC B9 42 [.int .i64 y6.Kind, .int .i64 y6.Shape, .int .i64 y6.Flags, .int .i64 y6.Age, .slice A7 n7 c7, .slice A22 n22 c22] :: G) rfl ?_
      refine run ?_
      obtain ⟨rfl, rfl⟩ := Prod.mk.inj (Option.some.inj h)
      exact RK_n ((cv_sel [3, 4, 5, 6, 7] 8 rfl rfl).trans (cv_pack1 (A22, n22, c22) rfl))
    · replace h := cond_f g19 h
      refine run ?_
      obtain ⟨rfl, rfl⟩ := Prod.mk.inj (Option.some.inj h)
      exact RK_n ((cv_sel [2, 3, 4, 5, 6] 7 rfl rfl).trans (cv_pack1 (A13, n13, c13) rfl))
  · rintro ⟨A13, n13, c13⟩ h
    refine K3_norm (boxC B4 70 [vf] :: boxC B5 42 [.int .i64 0, .int .i64 0, .int .i64 0, .int .i64 0, .slice none 0 0, .slice none 0 0] :: ownC rDValue 38 (.slice A7 n7 c7) y6.Slots :: ownC rDValue 38 (.slice A13 n13 c13) y14.2 :: boxC B9 42 [.int .i64 y6.Kind, .int .i64 y6.Shape, .int .i64 y6.Flags, .int .i64 y6.Age, .slice A7 n7 c7, .slice A13 n13 c13] :: G) rfl ?_
    refine run ?_
    refine G_rd (rd_boxS (us := [.int .i64 y6.Kind, .int .i64 y6.Shape, .int .i64 y6.Flags, .int .i64 y6.Age, .slice A7 n7 c7, .slice A13 n13 c13]) 4 rfl rfl agg42 rfl) rfl rfl rfl ?_
    refine G_opn (op_store (us := [.int .i64 y6.Kind, .int .i64 y6.Shape, .int .i64 y6.Flags, .int .i64 y6.Age, .slice A7 n7 c7, .slice A13 n13 c13]) (cs' := [.int .i64 y6.Kind, .int .i64 y6.Shape, .int .i64 y6.Flags, .int .i64 y6.Age, .slice A7 n7 c7, .slice A13 n13 c13]) 1 rfl rfl rfl rfl size42 rfl rfl rfl) rfl rfl ?_
    rintro _ _ rfl
    refine G_norm (boxC B4 70 [vf] :: boxC B5 42 [.int .i64 y6.Kind, .int .i64 y6.Shape, .int .i64 y6.Flags, .int .i64 y6.Age, .slice A7 n7 c7, .slice A13 n13 c13] :: ownC rDValue 38 (.slice A7 n7 c7) y6.Slots :: ownC rDValue 38 (.slice A13 n13 c13) y14.2 :: boxC B9 42 [.int .i64 y6.Kind, .int .i64 y6.Shape, .int .i64 y6.Flags, .int .i64 y6.Age, .slice A7 n7 c7, .slice A13 n13 c13] :: G) rfl ?_
    refine run ?_
    obtain rfl := Option.some.inj h
    exact endGl (rs := [.cell 4 42]) (vs := [.agg #[.int .i64 y6.Kind, .int .i64 y6.Shape, .int .i64 y6.Flags, .int .i64 y6.Age, .slice A7 n7 c7, .slice A13 n13 c13]]) rfl (.cons (rv_boxS 1 rfl rfl agg42) .nil) rfl (cv_selD [2, 3] 5 rfl rfl) ⟨_, _, _, _, _, _, rfl, rfl⟩
  · rintro ⟨A13, n13, c13⟩ h
    exact none_some h
  · rintro i ⟨A13, n13, c13⟩ h
    exact none_some h
def weak_Clean_O (N : Nat) (a0 : DCell) (a1 : (List Int)) : Option DCell :=
  (weak_is_O N a0).bind fun y7 => bif !y7 then (some (⟨0, 0, 0, 0, [], []⟩ : DCell)) else ((weak_kept_O N a0 (fun x => weak_Clean_c1_O N x a1)).bind fun y11 => some y11)
theorem weak_Clean_ok {N : Nat} {a0 : DCell} {a1 : (List Int)} {r : DCell} (h : weak_Clean_O N a0 a1 = some r) {A1 : Option Addr} {n1 c1 : Nat} {A2 : Option Addr} {n2 c2 : Nat} {A3 : Option Addr} {n3 c3 : Nat} : Okc Try.prog 79 [.agg #[.int .i64 a0.Kind, .int .i64 a0.Shape, .int .i64 a0.Flags, .int .i64 a0.Age, .slice A1 n1 c1, .slice A2 n2 c2], .slice A3 n3 c3] ([slC rDValue (.slice A1 n1 c1) a0.Slots, slC rDValue (.slice A2 n2 c2) a0.More, slC (rInt .i64) (.slice A3 n3 c3) a1]) (fun (u : Value) (post : List Chunk) => ∃ A0 n0 c0 A1 n1 c1, u = .agg #[.int .i64 r.Kind, .int .i64 r.Shape, .int .i64 r.Flags, .int .i64 r.Age, .slice A0 n0 c0, .slice A1 n1 c1] ∧ post = [ownC rDValue 38 (.slice A0 n0 c0) r.Slots, ownC rDValue 38 (.slice A1 n1 c1) r.More]) := by
  refine ok_E Try.func79 rfl rfl ?_
  simp only [envOf]
  refine run ?_
  refine G_opd (op_box rfl rfl) rfl rfl rfl ?_
  rintro _ _ ⟨B4, rfl, rfl⟩
  refine G_opd (op_box rfl rfl) rfl rfl rfl ?_
  rintro _ _ ⟨B5, rfl, rfl⟩
  refine G_opd (op_alloc zero42 rfl) rfl rfl rfl ?_
  rintro _ _ ⟨B6, rfl, rfl⟩
  refine run ?_
  refine G_seq ?_
  refine run ?_
  refine G_rd (rd_boxS (us := [.int .i64 a0.Kind, .int .i64 a0.Shape, .int .i64 a0.Flags, .int .i64 a0.Age, .slice A1 n1 c1, .slice A2 n2 c2]) 2 rfl rfl agg42 rfl) rfl rfl rfl ?_
  obtain ⟨y7, hy7, h⟩ := bind_elim h
  refine G_opd (op_callR (weak_is_ok hy7) call112 rfl (mem_cons (lent_ro (i := 3) rfl rfl) (mem_cons (lent_ro (i := 4) rfl rfl) mem_nil)) weak_is_free) rfl rfl rfl ?_
  rintro _ _ ⟨_, ⟨rfl, rfl⟩, rfl⟩
  refine run ?_
  refine G_cond rfl (fun g8 => ?_) (fun g8 => ?_)
  · replace h := cond_t g8 h
    refine run ?_
    refine G_ev (ev_build rfl (bld_42_)) rfl rfl rfl ?_
    refine G_opn (op_store (us := [.int .i64 0, .int .i64 0, .int .i64 0, .int .i64 0, .slice none 0 0, .slice none 0 0]) (cs' := [.int .i64 0, .int .i64 0, .int .i64 0, .int .i64 0, .slice none 0 0, .slice none 0 0]) 0 rfl rfl rfl rfl size42 rfl rfl rfl) rfl rfl ?_
    rintro _ _ rfl
    refine G_norm ([boxC B6 42 [.int .i64 0, .int .i64 0, .int .i64 0, .int .i64 0, .slice none 0 0, .slice none 0 0], boxC B5 31 [.slice A3 n3 c3], boxC B4 42 [.int .i64 a0.Kind, .int .i64 a0.Shape, .int .i64 a0.Flags, .int .i64 a0.Age, .slice A1 n1 c1, .slice A2 n2 c2], slC rDValue (.slice A1 n1 c1) a0.Slots, slC rDValue (.slice A2 n2 c2) a0.More, slC (rInt .i64) (.slice A3 n3 c3) a1]) rfl ?_
    refine run ?_
    obtain rfl := Option.some.inj h
    exact endGl (rs := [.cell 4 42]) (vs := [.agg #[.int .i64 0, .int .i64 0, .int .i64 0, .int .i64 0, .slice none 0 0, .slice none 0 0]]) rfl (.cons (rv_boxS 0 rfl rfl agg42) .nil) rfl ((cv_nil rDValue 38 _).trans ((cv_nil rDValue 38 _).trans (cv_sel [1, 0] 8 rfl rfl))) ⟨_, _, _, _, _, _, rfl, rfl⟩
  · replace h := cond_f g8 h
    refine run ?_
    refine G_rd (rd_boxS (us := [.int .i64 a0.Kind, .int .i64 a0.Shape, .int .i64 a0.Flags, .int .i64 a0.Age, .slice A1 n1 c1, .slice A2 n2 c2]) 2 rfl rfl agg42 rfl) rfl rfl rfl ?_
    refine G_ev (ev_makeFunc rfl) rfl rfl rfl ?_
    obtain ⟨y11, hy11, h⟩ := bind_elim h
    refine G_cv (cv_frzbox 1 rfl) ?_
    refine G_norm ([boxC B6 42 [.int .i64 0, .int .i64 0, .int .i64 0, .int .i64 0, .slice none 0 0, .slice none 0 0], rboxC B5 31 [.slice A3 n3 c3], boxC B4 42 [.int .i64 a0.Kind, .int .i64 a0.Shape, .int .i64 a0.Flags, .int .i64 a0.Age, .slice A1 n1 c1, .slice A2 n2 c2], slC rDValue (.slice A1 n1 c1) a0.Slots, slC rDValue (.slice A2 n2 c2) a0.More, slC (rInt .i64) (.slice A3 n3 c3) a1]) rfl ?_
    refine G_opd (op_call (weak_kept_ok hy11 ⟨mem_cons rfl (mem_cons rfl mem_nil), 114, #[], #[.pointer (some ⟨B5, 0, none⟩)], rfl, call114, fun _ _ hh => weak_Clean_c1_ok hh⟩) call113 rfl (cv_take [3, 4, 1, 5] [] [0, 1, 2, 3, 4, 5] 6 rfl)) rfl rfl rfl ?_
    rintro _ _ ⟨_, ⟨A12, n12, c12, A13, n13, c13, rfl, rfl⟩, rfl⟩
    refine G_norm ([ownC rDValue 38 (.slice A12 n12 c12) y11.Slots, ownC rDValue 38 (.slice A13 n13 c13) y11.More, boxC B6 42 [.int .i64 0, .int .i64 0, .int .i64 0, .int .i64 0, .slice none 0 0, .slice none 0 0], rboxC B5 31 [.slice A3 n3 c3], boxC B4 42 [.int .i64 a0.Kind, .int .i64 a0.Shape, .int .i64 a0.Flags, .int .i64 a0.Age, .slice A1 n1 c1, .slice A2 n2 c2], slC rDValue (.slice A1 n1 c1) a0.Slots, slC rDValue (.slice A2 n2 c2) a0.More, slC (rInt .i64) (.slice A3 n3 c3) a1]) rfl ?_
    refine G_opn (op_store (us := [.int .i64 y11.Kind, .int .i64 y11.Shape, .int .i64 y11.Flags, .int .i64 y11.Age, .slice A12 n12 c12, .slice A13 n13 c13]) (cs' := [.int .i64 y11.Kind, .int .i64 y11.Shape, .int .i64 y11.Flags, .int .i64 y11.Age, .slice A12 n12 c12, .slice A13 n13 c13]) 2 rfl rfl rfl rfl size42 rfl rfl rfl) rfl rfl ?_
    rintro _ _ rfl
    refine G_norm ([ownC rDValue 38 (.slice A12 n12 c12) y11.Slots, ownC rDValue 38 (.slice A13 n13 c13) y11.More, boxC B6 42 [.int .i64 y11.Kind, .int .i64 y11.Shape, .int .i64 y11.Flags, .int .i64 y11.Age, .slice A12 n12 c12, .slice A13 n13 c13], rboxC B5 31 [.slice A3 n3 c3], boxC B4 42 [.int .i64 a0.Kind, .int .i64 a0.Shape, .int .i64 a0.Flags, .int .i64 a0.Age, .slice A1 n1 c1, .slice A2 n2 c2], slC rDValue (.slice A1 n1 c1) a0.Slots, slC rDValue (.slice A2 n2 c2) a0.More, slC (rInt .i64) (.slice A3 n3 c3) a1]) rfl ?_
    refine run ?_
    obtain rfl := Option.some.inj h
    exact endGl (rs := [.cell 4 42]) (vs := [.agg #[.int .i64 y11.Kind, .int .i64 y11.Shape, .int .i64 y11.Flags, .int .i64 y11.Age, .slice A12 n12 c12, .slice A13 n13 c13]]) rfl (.cons (rv_boxS 2 rfl rfl agg42) .nil) rfl (cv_sel [0, 1] 8 rfl rfl) ⟨_, _, _, _, _, _, rfl, rfl⟩
def reach_cleaned_O (N : Nat) (a0 : DCell) (a1 : (List Int)) : Option DCell :=
  (bif decide (a0.Kind = 8) then ((cell_Right_O N a0).bind fun y7 => some y7) else (some false)).bind fun b6 => bif b6 then ((weak_Clean_O N a0 a1).bind fun y9 => some y9) else (some a0)
theorem reach_cleaned_ok {N : Nat} {a0 : DCell} {a1 : (List Int)} {r : DCell} (h : reach_cleaned_O N a0 a1 = some r) {A1 : Option Addr} {n1 c1 : Nat} {A2 : Option Addr} {n2 c2 : Nat} {A3 : Option Addr} {n3 c3 : Nat} : Okc Try.prog 61 [.agg #[.int .i64 a0.Kind, .int .i64 a0.Shape, .int .i64 a0.Flags, .int .i64 a0.Age, .slice A1 n1 c1, .slice A2 n2 c2], .slice A3 n3 c3] ([slC rDValue (.slice A1 n1 c1) a0.Slots, slC rDValue (.slice A2 n2 c2) a0.More, slC (rInt .i64) (.slice A3 n3 c3) a1]) (fun (u : Value) (post : List Chunk) => ∃ A0 n0 c0 A1 n1 c1, u = .agg #[.int .i64 r.Kind, .int .i64 r.Shape, .int .i64 r.Flags, .int .i64 r.Age, .slice A0 n0 c0, .slice A1 n1 c1] ∧ post = [slC rDValue (.slice A0 n0 c0) r.Slots, slC rDValue (.slice A1 n1 c1) r.More]) := by
  refine ok_E Try.func61 rfl rfl ?_
  simp only [envOf]
  refine run ?_
  refine G_opd (op_box rfl rfl) rfl rfl rfl ?_
  rintro _ _ ⟨B4, rfl, rfl⟩
  refine G_opd (op_alloc zero42 rfl) rfl rfl rfl ?_
  rintro _ _ ⟨B5, rfl, rfl⟩
  refine run ?_
  refine G_seq ?_
  refine run ?_
  obtain ⟨b6, hb6, h⟩ := bind_elim h
  refine G_segb 3 11 b6 ?_ ?_
  · clear h
    refine G_case 8 rfl (fun g6 => ?_) (fun g6 => ?_)
    · have h := cond_t g6 hb6
      refine G_rd (rd_boxS (us := [.int .i64 a0.Kind, .int .i64 a0.Shape, .int .i64 a0.Flags, .int .i64 a0.Age, .slice A1 n1 c1, .slice A2 n2 c2]) 1 rfl rfl agg42 rfl) rfl (g_tt g6 rfl) rfl ?_
      obtain ⟨y7, hy7, h⟩ := bind_elim h
      refine G_opd (op_callR (cell_Right_ok hy7) call98 rfl (mem_cons (lent_ro (i := 2) rfl rfl) (mem_cons (lent_ro (i := 3) rfl rfl) mem_nil)) cell_Right_free) rfl (g_tt g6 rfl) rfl ?_
      rintro _ _ ⟨_, ⟨rfl, rfl⟩, rfl⟩
      refine run ?_
      obtain rfl := Option.some.inj h
      exact G_joined (sub_cons rfl (sub_skip (sub_skip (sub_skip sub_refl rfl) rfl) rfl)) (cv_sel [0, 1, 2, 3, 4] 5 rfl rfl)
    · have h := cond_f g6 hb6
      refine run ?_
      obtain rfl := Option.some.inj h
      exact G_joined (sub_cons rfl (sub_skip (sub_skip (sub_skip sub_refl rfl) rfl) rfl)) (cv_sel [0, 1, 2, 3, 4] 5 rfl rfl)
  refine run ?_
  refine G_cond rfl (fun g8 => ?_) (fun g8 => ?_)
  · replace h := cond_t g8 h
    refine run ?_
    refine G_rd (rd_boxS (us := [.int .i64 a0.Kind, .int .i64 a0.Shape, .int .i64 a0.Flags, .int .i64 a0.Age, .slice A1 n1 c1, .slice A2 n2 c2]) 1 rfl rfl agg42 rfl) rfl rfl rfl ?_
    refine run ?_
    obtain ⟨y9, hy9, h⟩ := bind_elim h
    refine G_opd (op_call (weak_Clean_ok hy9) call79 rfl (cv_take [2, 3, 4] [] [0, 1, 2, 3, 4] 5 rfl)) rfl rfl rfl ?_
    rintro _ _ ⟨_, ⟨A10, n10, c10, A11, n11, c11, rfl, rfl⟩, rfl⟩
    refine G_norm ([ownC rDValue 38 (.slice A10 n10 c10) y9.Slots, ownC rDValue 38 (.slice A11 n11 c11) y9.More, boxC B5 42 [.int .i64 0, .int .i64 0, .int .i64 0, .int .i64 0, .slice none 0 0, .slice none 0 0], boxC B4 42 [.int .i64 a0.Kind, .int .i64 a0.Shape, .int .i64 a0.Flags, .int .i64 a0.Age, .slice A1 n1 c1, .slice A2 n2 c2], slC rDValue (.slice A1 n1 c1) a0.Slots, slC rDValue (.slice A2 n2 c2) a0.More, slC (rInt .i64) (.slice A3 n3 c3) a1]) rfl ?_
    refine G_opn (op_store (us := [.int .i64 y9.Kind, .int .i64 y9.Shape, .int .i64 y9.Flags, .int .i64 y9.Age, .slice A10 n10 c10, .slice A11 n11 c11]) (cs' := [.int .i64 y9.Kind, .int .i64 y9.Shape, .int .i64 y9.Flags, .int .i64 y9.Age, .slice A10 n10 c10, .slice A11 n11 c11]) 2 rfl rfl rfl rfl size42 rfl rfl rfl) rfl rfl ?_
    rintro _ _ rfl
    refine G_norm ([ownC rDValue 38 (.slice A10 n10 c10) y9.Slots, ownC rDValue 38 (.slice A11 n11 c11) y9.More, boxC B5 42 [.int .i64 y9.Kind, .int .i64 y9.Shape, .int .i64 y9.Flags, .int .i64 y9.Age, .slice A10 n10 c10, .slice A11 n11 c11], boxC B4 42 [.int .i64 a0.Kind, .int .i64 a0.Shape, .int .i64 a0.Flags, .int .i64 a0.Age, .slice A1 n1 c1, .slice A2 n2 c2], slC rDValue (.slice A1 n1 c1) a0.Slots, slC rDValue (.slice A2 n2 c2) a0.More, slC (rInt .i64) (.slice A3 n3 c3) a1]) rfl ?_
    refine run ?_
    obtain rfl := Option.some.inj h
    exact endGl (rs := [.cell 4 42]) (vs := [.agg #[.int .i64 y9.Kind, .int .i64 y9.Shape, .int .i64 y9.Flags, .int .i64 y9.Age, .slice A10 n10 c10, .slice A11 n11 c11]]) rfl (.cons (rv_boxS 2 rfl rfl agg42) .nil) rfl ((cv_frz 0 rfl).trans ((cv_frz 1 rfl).trans (cv_sel [0, 1] 7 rfl rfl))) ⟨_, _, _, _, _, _, rfl, rfl⟩
  · replace h := cond_f g8 h
    refine run ?_
    refine G_rd (rd_boxS (us := [.int .i64 a0.Kind, .int .i64 a0.Shape, .int .i64 a0.Flags, .int .i64 a0.Age, .slice A1 n1 c1, .slice A2 n2 c2]) 1 rfl rfl agg42 rfl) rfl rfl rfl ?_
    refine G_opn (op_store (us := [.int .i64 a0.Kind, .int .i64 a0.Shape, .int .i64 a0.Flags, .int .i64 a0.Age, .slice A1 n1 c1, .slice A2 n2 c2]) (cs' := [.int .i64 a0.Kind, .int .i64 a0.Shape, .int .i64 a0.Flags, .int .i64 a0.Age, .slice A1 n1 c1, .slice A2 n2 c2]) 0 rfl rfl rfl rfl size42 rfl rfl rfl) rfl rfl ?_
    rintro _ _ rfl
    refine G_norm ([boxC B5 42 [.int .i64 a0.Kind, .int .i64 a0.Shape, .int .i64 a0.Flags, .int .i64 a0.Age, .slice A1 n1 c1, .slice A2 n2 c2], boxC B4 42 [.int .i64 a0.Kind, .int .i64 a0.Shape, .int .i64 a0.Flags, .int .i64 a0.Age, .slice A1 n1 c1, .slice A2 n2 c2], slC rDValue (.slice A1 n1 c1) a0.Slots, slC rDValue (.slice A2 n2 c2) a0.More, slC (rInt .i64) (.slice A3 n3 c3) a1]) rfl ?_
    refine run ?_
    obtain rfl := Option.some.inj h
    exact endGl (rs := [.cell 4 42]) (vs := [.agg #[.int .i64 a0.Kind, .int .i64 a0.Shape, .int .i64 a0.Flags, .int .i64 a0.Age, .slice A1 n1 c1, .slice A2 n2 c2]]) rfl (.cons (rv_boxS 0 rfl rfl agg42) .nil) rfl (cv_sel [2, 3] 5 rfl rfl) ⟨_, _, _, _, _, _, rfl, rfl⟩
def reach_Alike_j45 (N : Nat) : Option Bool :=
  some true
def reach_Alike_l46 (N : Nat) (y24 : ((List Int))) (p31 : (List (Int × Int))) (p32 : (List (Int × Int))) : Nat → Int → (List DCell) → (List DCell) → (List DCell) → (List DCell) → (List Int) → (List Int) → Option Bool
  | 0, _, _, _, _, _, _, _ => none
  | m46 + 1, p47, p48, p49, p50, p51, p52, p53 => bif decide (p47 < (y24.length : Int)) then ((getE p52 p47).bind fun x55 => (reach_At_O N (⟨p48, p49⟩ : DMemory) x55).bind fun y56 => (reach_cleaned_O N y56 p52).bind fun y61 => (getE p53 p47).bind fun x66 => (reach_At_O N (⟨p50, p51⟩ : DMemory) x66).bind fun y67 => (reach_cleaned_O N y67 p53).bind fun y72 => (bif !decide (y61.Kind = y72.Kind) then (some true) else (some (!decide (y61.Shape = y72.Shape)))).bind fun b81 => (bif b81 then (some true) else (some (!decide (y61.Flags = y72.Flags)))).bind fun b82 => (bif b82 then (some true) else ((reach_twins_values_O N (⟨(⟨p48, p49⟩ : DMemory), (⟨p50, p51⟩ : DMemory), p52, p53, p31, p32⟩ : DTwins) y61.Slots y72.Slots).bind fun y84 => some (!y84))).bind fun b83 => (bif b83 then (some true) else ((reach_twins_values_O N (⟨(⟨p48, p49⟩ : DMemory), (⟨p50, p51⟩ : DMemory), p52, p53, p31, p32⟩ : DTwins) y61.More y72.More).bind fun y86 => some (!y86))).bind fun b85 => bif b85 then (some false) else (req (in64 (p47 + 1)) ((reach_Alike_l46 N y24 p31 p32 m46) (p47 + 1) p48 p49 p50 p51 p52 p53))) else (reach_Alike_j45 N)
theorem reach_Alike_l46_s {N m46 : Nat} {y24 : ((List Int))} {p31 : (List (Int × Int))} {p32 : (List (Int × Int))} {p47 : Int} {p48 : (List DCell)} {p49 : (List DCell)} {p50 : (List DCell)} {p51 : (List DCell)} {p52 : (List Int)} {p53 : (List Int)} : reach_Alike_l46 N y24 p31 p32 (m46 + 1) p47 p48 p49 p50 p51 p52 p53 = bif decide (p47 < (y24.length : Int)) then ((getE p52 p47).bind fun x55 => (reach_At_O N (⟨p48, p49⟩ : DMemory) x55).bind fun y56 => (reach_cleaned_O N y56 p52).bind fun y61 => (getE p53 p47).bind fun x66 => (reach_At_O N (⟨p50, p51⟩ : DMemory) x66).bind fun y67 => (reach_cleaned_O N y67 p53).bind fun y72 => (bif !decide (y61.Kind = y72.Kind) then (some true) else (some (!decide (y61.Shape = y72.Shape)))).bind fun b81 => (bif b81 then (some true) else (some (!decide (y61.Flags = y72.Flags)))).bind fun b82 => (bif b82 then (some true) else ((reach_twins_values_O N (⟨(⟨p48, p49⟩ : DMemory), (⟨p50, p51⟩ : DMemory), p52, p53, p31, p32⟩ : DTwins) y61.Slots y72.Slots).bind fun y84 => some (!y84))).bind fun b83 => (bif b83 then (some true) else ((reach_twins_values_O N (⟨(⟨p48, p49⟩ : DMemory), (⟨p50, p51⟩ : DMemory), p52, p53, p31, p32⟩ : DTwins) y61.More y72.More).bind fun y86 => some (!y86))).bind fun b85 => bif b85 then (some false) else (req (in64 (p47 + 1)) ((reach_Alike_l46 N y24 p31 p32 m46) (p47 + 1) p48 p49 p50 p51 p52 p53))) else (reach_Alike_j45 N) := rfl
def reach_Alike_j30 (N : Nat) (a1 : (List DValue)) (a3 : (List DValue)) (y9 : (DMemory)) (y14 : (DMemory)) (y24 : ((List Int))) (y27 : ((List Int))) (p31 : (List (Int × Int))) (p32 : (List (Int × Int))) : Option Bool :=
  (reach_twins_values_O N (⟨y9, y14, y24, y27, p31, p32⟩ : DTwins) a1 a3).bind fun y43 => bif !y43 then (some false) else (reach_Alike_l46 N y24 p31 p32 N 0 y9.Young y9.Old y14.Young y14.Old y24 y27)
def reach_Alike_l33 (N : Nat) (y24 : ((List Int))) (a1 : (List DValue)) (a3 : (List DValue)) (y9 : (DMemory)) (y14 : (DMemory)) (y27 : ((List Int))) : Nat → Int → (List (Int × Int)) → (List (Int × Int)) → Option Bool
  | 0, _, _, _ => none
  | m33 + 1, p34, p35, p36 => bif decide (p34 < (y24.length : Int)) then ((getE y24 p34).bind fun x38 => (getE y27 p34).bind fun x39 => req (in64 (p34 + 1)) ((reach_Alike_l33 N y24 a1 a3 y9 y14 y27 m33) (p34 + 1) (upL (entL p35 x38 0) x38 p34) (upL (entL p36 x39 0) x39 p34))) else (reach_Alike_j30 N a1 a3 y9 y14 y24 y27 p35 p36)
theorem reach_Alike_l33_s {N m33 : Nat} {y24 : ((List Int))} {a1 : (List DValue)} {a3 : (List DValue)} {y9 : (DMemory)} {y14 : (DMemory)} {y27 : ((List Int))} {p34 : Int} {p35 : (List (Int × Int))} {p36 : (List (Int × Int))} : reach_Alike_l33 N y24 a1 a3 y9 y14 y27 (m33 + 1) p34 p35 p36 = bif decide (p34 < (y24.length : Int)) then ((getE y24 p34).bind fun x38 => (getE y27 p34).bind fun x39 => req (in64 (p34 + 1)) ((reach_Alike_l33 N y24 a1 a3 y9 y14 y27 m33) (p34 + 1) (upL (entL p35 x38 0) x38 p34) (upL (entL p36 x39 0) x39 p34))) else (reach_Alike_j30 N a1 a3 y9 y14 y24 y27 p35 p36) := rfl
def reach_Alike_O (N : Nat) (a0 : DMemory) (a1 : (List DValue)) (a2 : DMemory) (a3 : (List DValue)) : Option Bool :=
  (reach_bare_O N a0).bind fun y9 => (reach_bare_O N a2).bind fun y14 => (reach_Order_O N y9 a1).bind fun y24 => (reach_Order_O N y14 a3).bind fun y27 => bif !decide ((y24.length : Int) = (y27.length : Int)) then (some false) else (reach_Alike_l33 N y24 a1 a3 y9 y14 y27 N 0 ([] : (List (Int × Int))) ([] : (List (Int × Int))))
set_option maxHeartbeats 4000000 in
theorem reach_Alike_ok {N : Nat} {a0 : DMemory} {a1 : (List DValue)} {a2 : DMemory} {a3 : (List DValue)} {r : Bool} (h : reach_Alike_O N a0 a1 a2 a3 = some r) {A1 : Option Addr} {n1 c1 : Nat} {A2 : Option Addr} {n2 c2 : Nat} {A3 : Option Addr} {n3 c3 : Nat} {A4 : Option Addr} {n4 c4 : Nat} {A5 : Option Addr} {n5 c5 : Nat} {A6 : Option Addr} {n6 c6 : Nat} : Okc Try.prog 26 [.agg #[.slice A1 n1 c1, .slice A2 n2 c2], .slice A3 n3 c3, .agg #[.slice A4 n4 c4, .slice A5 n5 c5], .slice A6 n6 c6] ([slC rDCell (.slice A1 n1 c1) a0.Young, slC rDCell (.slice A2 n2 c2) a0.Old, slC rDValue (.slice A3 n3 c3) a1, slC rDCell (.slice A4 n4 c4) a2.Young, slC rDCell (.slice A5 n5 c5) a2.Old, slC rDValue (.slice A6 n6 c6) a3]) (fun (u : Value) (post : List Chunk) => u = .bool r ∧ post = []) := by
  refine ok_E Try.func26 rfl rfl ?_
  simp only [envOf]
  refine run ?_
  refine G_opd (op_box rfl rfl) rfl rfl rfl ?_
  rintro _ _ ⟨B7, rfl, rfl⟩
  refine G_opd (op_box rfl rfl) rfl rfl rfl ?_
  rintro _ _ ⟨B8, rfl, rfl⟩
  refine run ?_
  refine G_seq ?_
  obtain ⟨y9, hy9, h⟩ := bind_elim h
  obtain ⟨y14, hy14, h⟩ := bind_elim h
  refine G_sub (t := [(1, .slice A3 n3 c3), (3, .slice A6 n6 c6), (4, .pointer (some ⟨B7, 0, none⟩)), (6, .pointer (some ⟨B8, 0, none⟩)), (8, .bool false)]) ?_ subT (cv_refl _)
  refine G_monoV (by kernel_rfl) 6 [] [14, 15, 16, 17, 18, 19] [[], [0], [], [2], [], []] [aV (.agg #[.slice A1 n1 c1, .slice A2 n2 c2]),
 aX6 (fun (A12 : Option Addr) (n12 : Nat) (c12 : Nat) (A13 : Option Addr) (n13 : Nat) (c13 : Nat) => .agg #[.slice A12 n12 c12, .slice A13 n13 c13]) (fun u => [ownC rDCell 42 (cl u 0) y9.Young, ownC rDCell 42 (cl u 1) y9.Old]),
 aV (.agg #[.slice A4 n4 c4, .slice A5 n5 c5]),
 aX6 (fun (A17 : Option Addr) (n17 : Nat) (c17 : Nat) (A18 : Option Addr) (n18 : Nat) (c18 : Nat) => .agg #[.slice A17 n17 c17, .slice A18 n18 c18]) (fun u => [ownC rDCell 42 (cl u 0) y14.Young, ownC rDCell 42 (cl u 1) y14.Old]),
 aX (fun (M20 : Nat) => .map (some M20)) (fun u => [mapC ekI evI (mb u) ([] : (List (Int × Int)))]),
 aX (fun (M22 : Nat) => .map (some M22)) (fun u => [mapC ekI evI (mb u) ([] : (List (Int × Int)))])] (by kernel_rfl) rfl ?_ ?_ ?_
  · exact qs_nil
  · refine steps_cons rfl ?_ ?_
    · refine X_op (op_makeMap (ek := ekI) (ev := evI)) rfl ?_
      rintro _ _ ⟨M21, rfl, rfl⟩
      exact cvp ⟨_, rfl⟩ (cv_refl _)
    refine steps_cons rfl ?_ ?_
    · refine X_op (op_makeMap (ek := ekI) (ev := evI)) rfl ?_
      rintro _ _ ⟨M19, rfl, rfl⟩
      exact cvp ⟨_, rfl⟩ (cv_refl _)
    refine steps_cons rfl ?_ ?_
    · refine X_op (op_call (reach_bare_ok hy14) call59 rfl (cv_take [5, 6] [] [0, 1, 2, 3, 4, 5, 6, 7] 8 rfl)) rfl ?_
      rintro _ _ ⟨_, ⟨A15, n15, c15, A16, n16, c16, rfl, rfl⟩, rfl⟩
      exact cvp ⟨_, _, _, _, _, _, rfl⟩ (cv_refl _)
    refine steps_cons rfl ?_ ?_
    · exact X_rd (rd_boxS (us := [.slice A4 n4 c4, .slice A5 n5 c5]) 0 rfl rfl agg24 rfl) rfl (cvp rfl (cv_refl _))
    refine steps_cons rfl ?_ ?_
    · refine X_op (op_call (reach_bare_ok hy9) call59 rfl (cv_take [2, 3] [] [0, 1, 2, 3, 4, 5, 6, 7] 8 rfl)) rfl ?_
      rintro _ _ ⟨_, ⟨A10, n10, c10, A11, n11, c11, rfl, rfl⟩, rfl⟩
      exact cvp ⟨_, _, _, _, _, _, rfl⟩ (cv_refl _)
    refine steps_cons rfl ?_ ?_
    · exact X_rd (rd_boxS (us := [.slice A1 n1 c1, .slice A2 n2 c2]) 1 rfl rfl agg24 rfl) rfl (cvp rfl (cv_refl _))
    exact steps_nil
  · intro A12 n12 c12 A13 n13 c13 A17 n17 c17 A18 n18 c18 M20 M22
    refine N_sub (t := [(15, .agg #[.slice A12 n12 c12, .slice A13 n13 c13]), (17, .agg #[.slice A17 n17 c17, .slice A18 n18 c18]), (18, .map (some M20)), (19, .map (some M22)), (1, .slice A3 n3 c3), (3, .slice A6 n6 c6), (4, .pointer (some ⟨B7, 0, none⟩)), (6, .pointer (some ⟨B8, 0, none⟩)), (8, .bool false)]) (L' := [ownC rDCell 42 (.slice A12 n12 c12) y9.Young, ownC rDCell 42 (.slice A13 n13 c13) y9.Old, ownC rDCell 42 (.slice A17 n17 c17) y14.Young, ownC rDCell 42 (.slice A18 n18 c18) y14.Old, mapC ekI evI M20 ([] : (List (Int × Int))), mapC ekI evI M22 ([] : (List (Int × Int))), boxC B8 24 [.slice A4 n4 c4, .slice A5 n5 c5], boxC B7 24 [.slice A1 n1 c1, .slice A2 n2 c2], slC rDCell (.slice A1 n1 c1) a0.Young, slC rDCell (.slice A2 n2 c2) a0.Old, slC rDValue (.slice A3 n3 c3) a1, slC rDCell (.slice A4 n4 c4) a2.Young, slC rDCell (.slice A5 n5 c5) a2.Old, slC rDValue (.slice A6 n6 c6) a3]) ?_ subT (cv_refl _)
    refine N_ev 6 rfl (by kernel_rfl) (ev_build rfl (bld_85_0_1_4_5 _ _ _ _ _ _ _ _ _ _ _ _ _ _)) rfl rfl rfl ?_
    refine N_opd 7 rfl (by kernel_rfl) (op_box rfl rfl) rfl rfl rfl ?_
    rintro _ _ ⟨B23, rfl, rfl⟩
    refine N_ev 8 rfl (by kernel_rfl) (ev_assign rfl) rfl rfl rfl ?_
    refine N_done (by kernel_rfl) ?_
    refine nx_n ?_
    refine G_seq ?_
    obtain ⟨y24, hy24, h⟩ := bind_elim h
    refine G_sub (t := [(1, .slice A3 n3 c3), (3, .slice A6 n6 c6), (8, .bool false), (9, .pointer (some ⟨B23, 0, none⟩))]) ?_ subT (cv_refl _)
    refine G_monoV (by kernel_rfl) 13 [0, 1] [22, 23, 24, 25, 26, 27, 28, 29, 30, 31, 32, 33, 34] [[], [], [], [2], [3], [4], [], [5, 6], [], [8], [9], [10], []] [aV (.pointer (some ⟨B23, 0, none⟩)),
 aV (.pointer (some ⟨B23, 0, none⟩)),
 aV (.pointer (some ⟨B23, 0, none⟩)),
 aV (.pointer (some ⟨B23, 0, none⟩)),
 aV (.pointer (some ⟨B23, 0, none⟩)),
 aV (.agg #[.slice A12 n12 c12, .slice A13 n13 c13]),
 aV (.slice A3 n3 c3),
 aS (fun u => ownC (rInt .i64) 3 u y24),
 aV (.pointer (some ⟨B23, 0, none⟩)),
 aV (.pointer (some ⟨B23, 0, none⟩)),
 aV (.pointer (some ⟨B23, 2, none⟩)),
 aV (.agg #[.slice A17 n17 c17, .slice A18 n18 c18]),
 aV (.slice A6 n6 c6)] (by kernel_rfl) rfl ?_ ?_ ?_
    · refine qs_cons rfl ?_ ?_
      · exact QS_ev (ev_move rfl) rfl (cvp rfl (cv_refl _))
      refine qs_cons rfl ?_ ?_
      · exact QS_ev (ev_move rfl) rfl (cvp rfl (cv_refl _))
      exact qs_nil
    · refine steps_cons rfl ?_ ?_
      · exact X_ev (ev_move rfl) rfl (cvp rfl (cv_refl _))
      refine steps_cons rfl ?_ ?_
      · exact X_rd (rd_boxS (us := [.slice A17 n17 c17, .slice A18 n18 c18]) 0 rfl rfl agg24 rfl) rfl (cvp rfl (cv_refl _))
      refine steps_cons rfl ?_ ?_
      · exact X_ev (ev_fa rfl fa_85_1) rfl (cvp rfl (cv_refl _))
      refine steps_cons rfl ?_ ?_
      · exact X_ev (ev_nilCheck rfl) rfl (cvp rfl (cv_refl _))
      refine steps_cons rfl ?_ ?_
      · exact X_ev (ev_move rfl) rfl (cvp rfl (cv_refl _))
      refine steps_cons rfl ?_ ?_
      · refine X_op (op_callR (reach_Order_ok hy24) call23 rfl (mem_cons (lent_own (i := 1) rfl) (mem_cons (lent_own (i := 2) rfl) (mem_cons (lent_ro (i := 11) rfl rfl) mem_nil))) reach_Order_free) rfl ?_
        rintro _ _ ⟨_, ⟨A25, n25, c25, rfl, rfl⟩, rfl⟩
        exact cvp ⟨_, _, _, rfl⟩ (cv_refl _)
      refine steps_cons rfl ?_ ?_
      · exact X_ev (ev_move rfl) rfl (cvp rfl (cv_refl _))
      refine steps_cons rfl ?_ ?_
      · exact X_rd (rd_boxS (us := [.slice A12 n12 c12, .slice A13 n13 c13]) 0 rfl rfl agg24 rfl) rfl (cvp rfl (cv_refl _))
      refine steps_cons rfl ?_ ?_
      · exact X_ev (ev_fa0 rfl fa_85_0) rfl (cvp rfl (cv_refl _))
      refine steps_cons rfl ?_ ?_
      · exact X_ev (ev_nilCheck rfl) rfl (cvp rfl (cv_refl _))
      refine steps_cons rfl ?_ ?_
      · exact X_ev (ev_move rfl) rfl (cvp rfl (cv_refl _))
      refine steps_cons rfl ?_ ?_
      · exact X_ev (ev_move rfl) rfl (cvp rfl (cv_refl _))
      refine steps_cons rfl ?_ ?_
      · exact X_ev (ev_move rfl) rfl (cvp rfl (cv_refl _))
      exact steps_nil
    · intro A26 n26 c26
      refine N_sub (t := [(22, .pointer (some ⟨B23, 0, none⟩)), (23, .pointer (some ⟨B23, 0, none⟩)), (29, .slice A26 n26 c26), (33, .agg #[.slice A17 n17 c17, .slice A18 n18 c18]), (34, .slice A6 n6 c6), (1, .slice A3 n3 c3), (3, .slice A6 n6 c6), (8, .bool false), (9, .pointer (some ⟨B23, 0, none⟩))]) (L' := [ownC (rInt .i64) 3 (.slice A26 n26 c26) y24, boxC B23 85 [.slice A12 n12 c12, .slice A13 n13 c13, .slice A17 n17 c17, .slice A18 n18 c18, .slice none 0 0, .slice none 0 0, .map (some M20), .map (some M22)], ownC rDCell 42 (.slice A12 n12 c12) y9.Young, ownC rDCell 42 (.slice A13 n13 c13) y9.Old, ownC rDCell 42 (.slice A17 n17 c17) y14.Young, ownC rDCell 42 (.slice A18 n18 c18) y14.Old, mapC ekI evI M20 ([] : (List (Int × Int))), mapC ekI evI M22 ([] : (List (Int × Int))), boxC B8 24 [.slice A4 n4 c4, .slice A5 n5 c5], boxC B7 24 [.slice A1 n1 c1, .slice A2 n2 c2], slC rDCell (.slice A1 n1 c1) a0.Young, slC rDCell (.slice A2 n2 c2) a0.Old, slC rDValue (.slice A3 n3 c3) a1, slC rDCell (.slice A4 n4 c4) a2.Young, slC rDCell (.slice A5 n5 c5) a2.Old, slC rDValue (.slice A6 n6 c6) a3]) ?_ subT (cv_refl _)
      obtain ⟨y27, hy27, h⟩ := bind_elim h
      refine N_opd 13 rfl (by kernel_rfl) (op_callR (reach_Order_ok hy27) call23 rfl (mem_cons (lent_own (i := 4) rfl) (mem_cons (lent_own (i := 5) rfl) (mem_cons (lent_ro (i := 15) rfl rfl) mem_nil))) reach_Order_free) rfl rfl rfl ?_
      rintro _ _ ⟨_, ⟨A28, n28, c28, rfl, rfl⟩, rfl⟩
      refine N_ev 14 rfl (by kernel_rfl) (ev_nilCheck rfl) rfl rfl rfl ?_
      refine N_ev 15 rfl (by kernel_rfl) (ev_fa rfl fa_85_2) rfl rfl rfl ?_
      refine N_opn 16 rfl (by kernel_rfl) (op_store (us := [.slice A26 n26 c26]) (cs' := [.slice A12 n12 c12, .slice A13 n13 c13, .slice A17 n17 c17, .slice A18 n18 c18, .slice A26 n26 c26, .slice none 0 0, .map (some M20), .map (some M22)]) 2 rfl rfl rfl rfl size31 rfl rfl rfl) rfl rfl ?_
      rintro _ _ rfl
      refine N_norm ([ownC (rInt .i64) 3 (.slice A28 n28 c28) y27, ownC (rInt .i64) 3 (.slice A26 n26 c26) y24, boxC B23 85 [.slice A12 n12 c12, .slice A13 n13 c13, .slice A17 n17 c17, .slice A18 n18 c18, .slice A26 n26 c26, .slice none 0 0, .map (some M20), .map (some M22)], ownC rDCell 42 (.slice A12 n12 c12) y9.Young, ownC rDCell 42 (.slice A13 n13 c13) y9.Old, ownC rDCell 42 (.slice A17 n17 c17) y14.Young, ownC rDCell 42 (.slice A18 n18 c18) y14.Old, mapC ekI evI M20 ([] : (List (Int × Int))), mapC ekI evI M22 ([] : (List (Int × Int))), boxC B8 24 [.slice A4 n4 c4, .slice A5 n5 c5], boxC B7 24 [.slice A1 n1 c1, .slice A2 n2 c2], slC rDCell (.slice A1 n1 c1) a0.Young, slC rDCell (.slice A2 n2 c2) a0.Old, slC rDValue (.slice A3 n3 c3) a1, slC rDCell (.slice A4 n4 c4) a2.Young, slC rDCell (.slice A5 n5 c5) a2.Old, slC rDValue (.slice A6 n6 c6) a3]) rfl ?_
      refine N_ev 17 rfl (by kernel_rfl) (ev_nilCheck rfl) rfl rfl rfl ?_
      refine N_ev 18 rfl (by kernel_rfl) (ev_fa rfl fa_85_3) rfl rfl rfl ?_
      refine N_opn 19 rfl (by kernel_rfl) (op_store (us := [.slice A28 n28 c28]) (cs' := [.slice A12 n12 c12, .slice A13 n13 c13, .slice A17 n17 c17, .slice A18 n18 c18, .slice A26 n26 c26, .slice A28 n28 c28, .map (some M20), .map (some M22)]) 2 rfl rfl rfl rfl size31 rfl rfl rfl) rfl rfl ?_
      rintro _ _ rfl
      refine N_norm ([ownC (rInt .i64) 3 (.slice A28 n28 c28) y27, ownC (rInt .i64) 3 (.slice A26 n26 c26) y24, boxC B23 85 [.slice A12 n12 c12, .slice A13 n13 c13, .slice A17 n17 c17, .slice A18 n18 c18, .slice A26 n26 c26, .slice A28 n28 c28, .map (some M20), .map (some M22)], ownC rDCell 42 (.slice A12 n12 c12) y9.Young, ownC rDCell 42 (.slice A13 n13 c13) y9.Old, ownC rDCell 42 (.slice A17 n17 c17) y14.Young, ownC rDCell 42 (.slice A18 n18 c18) y14.Old, mapC ekI evI M20 ([] : (List (Int × Int))), mapC ekI evI M22 ([] : (List (Int × Int))), boxC B8 24 [.slice A4 n4 c4, .slice A5 n5 c5], boxC B7 24 [.slice A1 n1 c1, .slice A2 n2 c2], slC rDCell (.slice A1 n1 c1) a0.Young, slC rDCell (.slice A2 n2 c2) a0.Old, slC rDValue (.slice A3 n3 c3) a1, slC rDCell (.slice A4 n4 c4) a2.Young, slC rDCell (.slice A5 n5 c5) a2.Old, slC rDValue (.slice A6 n6 c6) a3]) rfl ?_
      refine N_done (by kernel_rfl) ?_
      refine nx_n ?_
      refine G_seq ?_
      refine G_seq ?_
      refine G_drawn (by kernel_rfl) _ (cv_refl _) ?_
      refine T3_ev 0 rfl (by kernel_rfl) (ev_move rfl) rfl rfl ?_
      refine T3_ev 1 rfl (by kernel_rfl) (ev_nilCheck rfl) rfl rfl ?_
      refine T3_ev 2 rfl (by kernel_rfl) (ev_fa rfl fa_85_2) rfl rfl ?_
      refine T3_rd 3 rfl (by kernel_rfl) (rd_box1 2 rfl rfl one31 rfl) rfl rfl ?_
      refine T3_rd 4 rfl (by kernel_rfl) (rd_len 1 rfl els_own rfl Try.underlying31) rfl rfl ?_
      refine T3_ev 5 rfl (by kernel_rfl) (ev_move rfl) rfl rfl ?_
      refine T3_ev 6 rfl (by kernel_rfl) (ev_nilCheck rfl) rfl rfl ?_
      refine T3_ev 7 rfl (by kernel_rfl) (ev_fa rfl fa_85_3) rfl rfl ?_
      refine T3_rd 8 rfl (by kernel_rfl) (rd_box1 2 rfl rfl one31 rfl) rfl rfl ?_
      refine T3_rd 9 rfl (by kernel_rfl) (rd_len 0 rfl els_own rfl Try.underlying31) rfl rfl ?_
      refine T3_ev 10 rfl (by kernel_rfl) (ev_ne rfl rfl) rfl rfl ?_
      refine T3_done (by kernel_rfl) ?_
      refine nx_n ?_
      refine G_cond rfl (fun g29 => ?_) (fun g29 => ?_)
      · replace h := cond_t g29 h
        refine run ?_
        obtain rfl := Option.some.inj h
        exact endG1 rfl rfl (cv_sel [] 17 rfl rfl) ⟨rfl, rfl⟩
      · replace h := cond_f g29 h
        refine run ?_
        refine G_joinF (fun s L => ∃ (p31 : (List (Int × Int))) (p32 : (List (Int × Int))), reach_Alike_j30 N a1 a3 y9 y14 y24 y27 p31 p32 = some r ∧ s = [(1, .slice A3 n3 c3), (3, .slice A6 n6 c6), (8, .bool false), (9, .pointer (some ⟨B23, 0, none⟩))] ∧ L = [slC rDValue (.slice A3 n3 c3) a1, slC rDValue (.slice A6 n6 c6) a3, ownC rDCell 42 (.slice A12 n12 c12) y9.Young, ownC rDCell 42 (.slice A13 n13 c13) y9.Old, ownC rDCell 42 (.slice A17 n17 c17) y14.Young, ownC rDCell 42 (.slice A18 n18 c18) y14.Old, ownC (rInt .i64) 3 (.slice A26 n26 c26) y24, ownC (rInt .i64) 3 (.slice A28 n28 c28) y27, mapC ekI evI M20 p31, mapC ekI evI M22 p32, boxC B23 85 [.slice A12 n12 c12, .slice A13 n13 c13, .slice A17 n17 c17, .slice A18 n18 c18, .slice A26 n26 c26, .slice A28 n28 c28, .map (some M20), .map (some M22)]]) ?_ ?_
        · refine run ?_
          refine G_rd (rd_len 1 rfl els_own rfl Try.underlying31) rfl rfl rfl ?_
          refine run ?_
          refine G_loopF (fun m s L => ∃ (p34 : Int) (p35 : (List (Int × Int))) (p36 : (List (Int × Int))), reach_Alike_l33 N y24 a1 a3 y9 y14 y27 m p34 p35 p36 = some r ∧ s = [(1, .slice A3 n3 c3), (3, .slice A6 n6 c6), (8, .bool false), (9, .pointer (some ⟨B23, 0, none⟩)), (55, .int .i64 (y24.length : Int)), (56, .int .i64 p34)] ∧ L = [slC rDValue (.slice A3 n3 c3) a1, slC rDValue (.slice A6 n6 c6) a3, ownC rDCell 42 (.slice A12 n12 c12) y9.Young, ownC rDCell 42 (.slice A13 n13 c13) y9.Old, ownC rDCell 42 (.slice A17 n17 c17) y14.Young, ownC rDCell 42 (.slice A18 n18 c18) y14.Old, ownC (rInt .i64) 3 (.slice A26 n26 c26) y24, ownC (rInt .i64) 3 (.slice A28 n28 c28) y27, mapC ekI evI M20 p35, mapC ekI evI M22 p36, boxC B23 85 [.slice A12 n12 c12, .slice A13 n13 c13, .slice A17 n17 c17, .slice A18 n18 c18, .slice A26 n26 c26, .slice A28 n28 c28, .map (some M20), .map (some M22)]]) N _ _ ⟨0, ([] : (List (Int × Int))), ([] : (List (Int × Int))), h, rfl, rfl⟩ (sub_cons rfl (sub_cons rfl (sub_cons rfl (sub_cons rfl (sub_cons rfl (sub_cons rfl sub_nil)))))) (cv_sel [13, 16, 3, 4, 5, 6, 1, 0, 7, 8, 2] 17 rfl rfl) ?_
          rintro (_ | m33) _ _ ⟨p34, p35, p36, h, rfl, rfl⟩
          · exact none_some h
          rw [reach_Alike_l33_s] at h
          refine run ?_
          refine G_seq ?_
          refine G_cond rfl (fun g37 => ?_) (fun g37 => ?_)
          · replace h := cond_t g37 h
            refine run ?_
            refine G_seq ?_
            refine run ?_
            refine G_drawn (by kernel_rfl) ([slC rDValue (.slice A3 n3 c3) a1, slC rDValue (.slice A6 n6 c6) a3, ownC rDCell 42 (.slice A12 n12 c12) y9.Young, ownC rDCell 42 (.slice A13 n13 c13) y9.Old, ownC rDCell 42 (.slice A17 n17 c17) y14.Young, ownC rDCell 42 (.slice A18 n18 c18) y14.Old, ownC (rInt .i64) 3 (.slice A26 n26 c26) y24, ownC (rInt .i64) 3 (.slice A28 n28 c28) y27, boxC B23 85 [.slice A12 n12 c12, .slice A13 n13 c13, .slice A17 n17 c17, .slice A18 n18 c18, .slice A26 n26 c26, .slice A28 n28 c28, .map (some M20), .map (some M22)]]) (cv_sel [0, 1, 2, 3, 4, 5, 6, 7, 10] 11 rfl rfl) ?_
            refine T3_ev 0 rfl (by kernel_rfl) (ev_move rfl) rfl rfl ?_
            refine T3_ev 1 rfl (by kernel_rfl) (ev_nilCheck rfl) rfl rfl ?_
            refine T3_ev 2 rfl (by kernel_rfl) (ev_fa rfl fa_85_4) rfl rfl ?_
            refine T3_rd 3 rfl (by kernel_rfl) (rd_box1 8 rfl rfl one83 rfl) rfl rfl ?_
            refine T3_ev 4 rfl (by kernel_rfl) (ev_move rfl) rfl rfl ?_
            refine T3_ev 5 rfl (by kernel_rfl) (ev_nilCheck rfl) rfl rfl ?_
            refine T3_ev 6 rfl (by kernel_rfl) (ev_fa rfl fa_85_2) rfl rfl ?_
            refine T3_rd 7 rfl (by kernel_rfl) (rd_box1 8 rfl rfl one31 rfl) rfl rfl ?_
            refine T3_ev 8 rfl (by kernel_rfl) (ev_move rfl) rfl rfl ?_
            obtain ⟨x38, hx38, h⟩ := bind_elim h
            obtain ⟨lx38, ux38, hx38⟩ := getE_elim hx38
            refine T3_rd 9 rfl (by kernel_rfl) (rd_idx 6 rfl els_own rfl rfl Try.underlying31 size3 lx38 ux38) rfl rfl ?_
            refine T3_rd 10 rfl (by kernel_rfl) (rd_elem1 (u := .int .i64 x38) 6 rfl els_own rfl hx38 one3 (fun _ _ _ h => by rw [show _ = _ from h]; rfl)) rfl rfl ?_
            refine T3_ev 11 rfl (by kernel_rfl) (ev_move rfl) rfl rfl ?_
            refine T3_ev 12 rfl (by kernel_rfl) (ev_nilCheck rfl) rfl rfl ?_
            refine T3_ev 13 rfl (by kernel_rfl) (ev_fa rfl fa_85_5) rfl rfl ?_
            refine T3_rd 14 rfl (by kernel_rfl) (rd_box1 8 rfl rfl one83 rfl) rfl rfl ?_
            refine T3_ev 15 rfl (by kernel_rfl) (ev_move rfl) rfl rfl ?_
            refine T3_ev 16 rfl (by kernel_rfl) (ev_nilCheck rfl) rfl rfl ?_
            refine T3_ev 17 rfl (by kernel_rfl) (ev_fa rfl fa_85_3) rfl rfl ?_
            refine T3_rd 18 rfl (by kernel_rfl) (rd_box1 8 rfl rfl one31 rfl) rfl rfl ?_
            refine T3_ev 19 rfl (by kernel_rfl) (ev_move rfl) rfl rfl ?_
            obtain ⟨x39, hx39, h⟩ := bind_elim h
            obtain ⟨lx39, ux39, hx39⟩ := getE_elim hx39
            refine T3_rd 20 rfl (by kernel_rfl) (rd_idx 7 rfl els_own rfl rfl Try.underlying31 size3 lx39 ux39) rfl rfl ?_
            refine T3_rd 21 rfl (by kernel_rfl) (rd_elem1 (u := .int .i64 x39) 7 rfl els_own rfl hx39 one3 (fun _ _ _ h => by rw [show _ = _ from h]; rfl)) rfl rfl ?_
            refine T3_ev 22 rfl (by kernel_rfl) (ev_move rfl) rfl rfl ?_
            refine T3_ev 23 rfl (by kernel_rfl) (ev_move rfl) rfl rfl ?_
            refine T3_opd 24 rfl (by kernel_rfl) (op_mapEntry (a := x38) (z := 0) 8 rfl rfl rfl Try.underlying83 (keyOk_int Try.underlying3) zero3) rfl rfl rfl ?_
            rintro _ _ ⟨n40, rfl, rfl⟩
            refine ⟨[slC rDValue (.slice A3 n3 c3) a1, slC rDValue (.slice A6 n6 c6) a3, ownC rDCell 42 (.slice A12 n12 c12) y9.Young, ownC rDCell 42 (.slice A13 n13 c13) y9.Old, ownC rDCell 42 (.slice A17 n17 c17) y14.Young, ownC rDCell 42 (.slice A18 n18 c18) y14.Old, ownC (rInt .i64) 3 (.slice A26 n26 c26) y24, ownC (rInt .i64) 3 (.slice A28 n28 c28) y27, boxC B23 85 [.slice A12 n12 c12, .slice A13 n13 c13, .slice A17 n17 c17, .slice A18 n18 c18, .slice A26 n26 c26, .slice A28 n28 c28, .map (some M20), .map (some M22)]], cv_sel [0, 1, 2, 3, 4, 5, 6, 7, 10] 11 rfl rfl, cv_refl _, ?_⟩
            refine T3_norm ([slC rDValue (.slice A3 n3 c3) a1, slC rDValue (.slice A6 n6 c6) a3, ownC rDCell 42 (.slice A12 n12 c12) y9.Young, ownC rDCell 42 (.slice A13 n13 c13) y9.Old, ownC rDCell 42 (.slice A17 n17 c17) y14.Young, ownC rDCell 42 (.slice A18 n18 c18) y14.Old, ownC (rInt .i64) 3 (.slice A26 n26 c26) y24, ownC (rInt .i64) 3 (.slice A28 n28 c28) y27, entC ekI evI M20 (entL p35 x38 0) x38 n40, mapC ekI evI M22 p36, boxC B23 85 [.slice A12 n12 c12, .slice A13 n13 c13, .slice A17 n17 c17, .slice A18 n18 c18, .slice A26 n26 c26, .slice A28 n28 c28, .map (some M20), .map (some M22)]]) rfl ?_
            refine T3_ev 25 rfl (by kernel_rfl) (ev_extract rfl rfl) rfl rfl ?_
            refine T3_opn 26 rfl (by kernel_rfl) (op_entryStore (b := p34) 8 rfl rfl rfl rfl) rfl rfl ?_
            rintro _ _ rfl
            refine ⟨[slC rDValue (.slice A3 n3 c3) a1, slC rDValue (.slice A6 n6 c6) a3, ownC rDCell 42 (.slice A12 n12 c12) y9.Young, ownC rDCell 42 (.slice A13 n13 c13) y9.Old, ownC rDCell 42 (.slice A17 n17 c17) y14.Young, ownC rDCell 42 (.slice A18 n18 c18) y14.Old, ownC (rInt .i64) 3 (.slice A26 n26 c26) y24, ownC (rInt .i64) 3 (.slice A28 n28 c28) y27, boxC B23 85 [.slice A12 n12 c12, .slice A13 n13 c13, .slice A17 n17 c17, .slice A18 n18 c18, .slice A26 n26 c26, .slice A28 n28 c28, .map (some M20), .map (some M22)]], cv_sel [0, 1, 2, 3, 4, 5, 6, 7, 10] 11 rfl rfl, cv_refl _, ?_⟩
            refine T3_norm ([slC rDValue (.slice A3 n3 c3) a1, slC rDValue (.slice A6 n6 c6) a3, ownC rDCell 42 (.slice A12 n12 c12) y9.Young, ownC rDCell 42 (.slice A13 n13 c13) y9.Old, ownC rDCell 42 (.slice A17 n17 c17) y14.Young, ownC rDCell 42 (.slice A18 n18 c18) y14.Old, ownC (rInt .i64) 3 (.slice A26 n26 c26) y24, ownC (rInt .i64) 3 (.slice A28 n28 c28) y27, mapC ekI evI M20 (upL (entL p35 x38 0) x38 p34), mapC ekI evI M22 p36, boxC B23 85 [.slice A12 n12 c12, .slice A13 n13 c13, .slice A17 n17 c17, .slice A18 n18 c18, .slice A26 n26 c26, .slice A28 n28 c28, .map (some M20), .map (some M22)]]) rfl ?_
            refine T3_opd 27 rfl (by kernel_rfl) (op_mapEntry (a := x39) (z := 0) 9 rfl rfl rfl Try.underlying83 (keyOk_int Try.underlying3) zero3) rfl rfl rfl ?_
            rintro _ _ ⟨n41, rfl, rfl⟩
            refine ⟨[slC rDValue (.slice A3 n3 c3) a1, slC rDValue (.slice A6 n6 c6) a3, ownC rDCell 42 (.slice A12 n12 c12) y9.Young, ownC rDCell 42 (.slice A13 n13 c13) y9.Old, ownC rDCell 42 (.slice A17 n17 c17) y14.Young, ownC rDCell 42 (.slice A18 n18 c18) y14.Old, ownC (rInt .i64) 3 (.slice A26 n26 c26) y24, ownC (rInt .i64) 3 (.slice A28 n28 c28) y27, boxC B23 85 [.slice A12 n12 c12, .slice A13 n13 c13, .slice A17 n17 c17, .slice A18 n18 c18, .slice A26 n26 c26, .slice A28 n28 c28, .map (some M20), .map (some M22)]], cv_sel [0, 1, 2, 3, 4, 5, 6, 7, 10] 11 rfl rfl, cv_refl _, ?_⟩
            refine T3_norm ([slC rDValue (.slice A3 n3 c3) a1, slC rDValue (.slice A6 n6 c6) a3, ownC rDCell 42 (.slice A12 n12 c12) y9.Young, ownC rDCell 42 (.slice A13 n13 c13) y9.Old, ownC rDCell 42 (.slice A17 n17 c17) y14.Young, ownC rDCell 42 (.slice A18 n18 c18) y14.Old, ownC (rInt .i64) 3 (.slice A26 n26 c26) y24, ownC (rInt .i64) 3 (.slice A28 n28 c28) y27, mapC ekI evI M20 (upL (entL p35 x38 0) x38 p34), entC ekI evI M22 (entL p36 x39 0) x39 n41, boxC B23 85 [.slice A12 n12 c12, .slice A13 n13 c13, .slice A17 n17 c17, .slice A18 n18 c18, .slice A26 n26 c26, .slice A28 n28 c28, .map (some M20), .map (some M22)]]) rfl ?_
            refine T3_ev 28 rfl (by kernel_rfl) (ev_extract rfl rfl) rfl rfl ?_
            refine T3_opn 29 rfl (by kernel_rfl) (op_entryStore (b := p34) 9 rfl rfl rfl rfl) rfl rfl ?_
            rintro _ _ rfl
            refine ⟨[slC rDValue (.slice A3 n3 c3) a1, slC rDValue (.slice A6 n6 c6) a3, ownC rDCell 42 (.slice A12 n12 c12) y9.Young, ownC rDCell 42 (.slice A13 n13 c13) y9.Old, ownC rDCell 42 (.slice A17 n17 c17) y14.Young, ownC rDCell 42 (.slice A18 n18 c18) y14.Old, ownC (rInt .i64) 3 (.slice A26 n26 c26) y24, ownC (rInt .i64) 3 (.slice A28 n28 c28) y27, boxC B23 85 [.slice A12 n12 c12, .slice A13 n13 c13, .slice A17 n17 c17, .slice A18 n18 c18, .slice A26 n26 c26, .slice A28 n28 c28, .map (some M20), .map (some M22)]], cv_sel [0, 1, 2, 3, 4, 5, 6, 7, 10] 11 rfl rfl, cv_refl _, ?_⟩
            refine T3_norm ([slC rDValue (.slice A3 n3 c3) a1, slC rDValue (.slice A6 n6 c6) a3, ownC rDCell 42 (.slice A12 n12 c12) y9.Young, ownC rDCell 42 (.slice A13 n13 c13) y9.Old, ownC rDCell 42 (.slice A17 n17 c17) y14.Young, ownC rDCell 42 (.slice A18 n18 c18) y14.Old, ownC (rInt .i64) 3 (.slice A26 n26 c26) y24, ownC (rInt .i64) 3 (.slice A28 n28 c28) y27, mapC ekI evI M20 (upL (entL p35 x38 0) x38 p34), mapC ekI evI M22 (upL (entL p36 x39 0) x39 p34), boxC B23 85 [.slice A12 n12 c12, .slice A13 n13 c13, .slice A17 n17 c17, .slice A18 n18 c18, .slice A26 n26 c26, .slice A28 n28 c28, .map (some M20), .map (some M22)]]) rfl ?_
            refine T3_done (by kernel_rfl) ?_
            refine run ?_
            obtain ⟨q42, h⟩ := req_elim h
            refine G_ev (ev_add rfl rfl q42.1 q42.2) rfl rfl rfl ?_
            refine run ?_
            exact ⟨m33, _, _, Nat.lt_succ_self _, ⟨p34 + 1, upL (entL p35 x38 0) x38 p34, upL (entL p36 x39 0) x39 p34, h, rfl, rfl⟩, sub_cons rfl (sub_cons rfl (sub_cons rfl (sub_cons rfl (sub_cons rfl (sub_cons rfl sub_nil))))), cv_sel [0, 1, 2, 3, 4, 5, 6, 7, 8, 9, 10] 11 rfl rfl⟩
          · replace h := cond_f g37 h
            refine run ?_
            exact ⟨_, _, ⟨p35, p36, h, rfl, rfl⟩, sub_cons rfl (sub_cons rfl (sub_cons rfl (sub_cons rfl sub_nil))), cv_sel [0, 1, 2, 3, 4, 5, 6, 7, 8, 9, 10] 11 rfl rfl⟩
        · rintro _ _ ⟨p31, p32, h, rfl, rfl⟩
          refine G_seq ?_
          refine run ?_
          obtain ⟨y43, hy43, h⟩ := bind_elim h
          refine G_opd (op_callR (reach_twins_values_ok hy43) call60 rfl (mem_cons (lent_box (i := 10) rfl) (mem_cons (lent_own (i := 2) rfl) (mem_cons (lent_own (i := 3) rfl) (mem_cons (lent_own (i := 4) rfl) (mem_cons (lent_own (i := 5) rfl) (mem_cons (lent_own (i := 6) rfl) (mem_cons (lent_own (i := 7) rfl) (mem_cons (lent_map (i := 8) rfl) (mem_cons (lent_map (i := 9) rfl) (mem_cons (lent_ro (i := 0) rfl rfl) (mem_cons (lent_ro (i := 1) rfl rfl) mem_nil))))))))))) reach_twins_values_free) rfl rfl rfl ?_
          rintro _ _ ⟨_, ⟨rfl, rfl⟩, rfl⟩
          refine run ?_
          refine G_cond rfl (fun g44 => ?_) (fun g44 => ?_)
          · replace h := cond_t g44 h
            refine run ?_
            obtain rfl := Option.some.inj h
            exact endG1 rfl rfl (cv_sel [] 11 rfl rfl) ⟨rfl, rfl⟩
          · replace h := cond_f g44 h
            refine run ?_
            refine G_joinF (fun s L => reach_Alike_j45 N = some r ∧ s = [(8, .bool false)] ∧ L = []) ?_ ?_
            · refine run ?_
              refine G_rd (rd_box1 10 rfl rfl one31 rfl) rfl rfl rfl ?_
              refine G_rd (rd_len 6 rfl els_own rfl Try.underlying31) rfl rfl rfl ?_
              refine run ?_
              refine G_loopF (fun m s L => ∃ (p47 : Int) (p48 : (List DCell)) (p49 : (List DCell)) (p50 : (List DCell)) (p51 : (List DCell)) (p52 : (List Int)) (p53 : (List Int)) (A48 : Option Addr) (n48 c48 : Nat) (A49 : Option Addr) (n49 c49 : Nat) (A50 : Option Addr) (n50 c50 : Nat) (A51 : Option Addr) (n51 c51 : Nat) (A52 : Option Addr) (n52 c52 : Nat) (A53 : Option Addr) (n53 c53 : Nat), reach_Alike_l46 N y24 p31 p32 m p47 p48 p49 p50 p51 p52 p53 = some r ∧ s = [(8, .bool false), (9, .pointer (some ⟨B23, 0, none⟩)), (97, .int .i64 (y24.length : Int)), (98, .int .i64 p47)] ∧ L = [slC rDCell (.slice A48 n48 c48) p48, slC rDCell (.slice A49 n49 c49) p49, slC rDCell (.slice A50 n50 c50) p50, slC rDCell (.slice A51 n51 c51) p51, slC (rInt .i64) (.slice A52 n52 c52) p52, slC (rInt .i64) (.slice A53 n53 c53) p53, mapC ekI evI M20 p31, mapC ekI evI M22 p32, boxC B23 85 [.slice A48 n48 c48, .slice A49 n49 c49, .slice A50 n50 c50, .slice A51 n51 c51, .slice A52 n52 c52, .slice A53 n53 c53, .map (some M20), .map (some M22)]]) N _ _ ⟨0, y9.Young, y9.Old, y14.Young, y14.Old, y24, y27, A12, n12, c12, A13, n13, c13, A17, n17, c17, A18, n18, c18, A26, n26, c26, A28, n28, c28, h, rfl, rfl⟩ (sub_cons rfl (sub_cons rfl (sub_cons rfl (sub_cons rfl sub_nil)))) ((cv_frz 2 rfl).trans ((cv_frz 3 rfl).trans ((cv_frz 4 rfl).trans ((cv_frz 5 rfl).trans ((cv_frz 6 rfl).trans ((cv_frz 7 rfl).trans (cv_sel [2, 3, 4, 5, 6, 7, 8, 9, 10] 11 rfl rfl))))))) ?_
              rintro (_ | m46) _ _ ⟨p47, p48, p49, p50, p51, p52, p53, A48, n48, c48, A49, n49, c49, A50, n50, c50, A51, n51, c51, A52, n52, c52, A53, n53, c53, h, rfl, rfl⟩
              · exact none_some h
              rw [reach_Alike_l46_s] at h
              refine run ?_
              refine G_seq ?_
              refine G_cond rfl (fun g54 => ?_) (fun g54 => ?_)
              · replace h := cond_t g54 h
                refine run ?_
                refine G_seq ?_
                refine run ?_
                refine G_seq ?_
                obtain ⟨x55, hx55, h⟩ := bind_elim h
                obtain ⟨lx55, ux55, hx55⟩ := getE_elim hx55
                obtain ⟨y56, hy56, h⟩ := bind_elim h
                obtain ⟨y61, hy61, h⟩ := bind_elim h
                obtain ⟨x66, hx66, h⟩ := bind_elim h
                obtain ⟨lx66, ux66, hx66⟩ := getE_elim hx66
                obtain ⟨y67, hy67, h⟩ := bind_elim h
                obtain ⟨y72, hy72, h⟩ := bind_elim h
                refine G_sub (t := [(8, .bool false), (9, .pointer (some ⟨B23, 0, none⟩)), (11, .int .i64 p47), (97, .int .i64 (y24.length : Int)), (98, .int .i64 p47)]) ?_ subT (cv_refl _)
                refine G_monoV (by kernel_rfl) 36 [] [101, 102, 103, 104, 105, 106, 107, 108, 109, 110, 111, 112, 113, 114, 115, 116, 117, 118, 119, 120, 121, 122, 123, 124, 125, 126, 127, 128, 129, 130, 131, 132, 133, 134, 12, 13] [[], [0], [1], [2], [], [4], [5], [6], [], [7, 8], [9], [3, 10], [], [12], [13], [14], [11, 15], [], [17], [18], [19], [], [21], [22], [23], [], [24, 25], [26], [20, 27], [], [29], [30], [31], [28, 32], [], []] [aV (.pointer (some ⟨B23, 0, none⟩)),
 aV (.pointer (some ⟨B23, 0, none⟩)),
 aV (.pointer (some ⟨B23, 0, none⟩)),
 aV (.agg #[.slice A48 n48 c48, .slice A49 n49 c49]),
 aV (.pointer (some ⟨B23, 0, none⟩)),
 aV (.pointer (some ⟨B23, 0, none⟩)),
 aV (.pointer (some ⟨B23, 4, none⟩)),
 aV (.slice A52 n52 c52),
 aV (.int .i64 p47),
 aV (elemQ (.slice A52 n52 c52) p47.toNat 1 0),
 aV (.int .i64 x55),
 aX6 (fun (A59 : Option Addr) (n59 : Nat) (c59 : Nat) (A60 : Option Addr) (n60 : Nat) (c60 : Nat) => .agg #[.int .i64 y56.Kind, .int .i64 y56.Shape, .int .i64 y56.Flags, .int .i64 y56.Age, .slice A59 n59 c59, .slice A60 n60 c60]) (fun u => [slC rDValue (cl u 4) y56.Slots, slC rDValue (cl u 5) y56.More]),
 aV (.pointer (some ⟨B23, 0, none⟩)),
 aV (.pointer (some ⟨B23, 0, none⟩)),
 aV (.pointer (some ⟨B23, 4, none⟩)),
 aV (.slice A52 n52 c52),
 aX6 (fun (A64 : Option Addr) (n64 : Nat) (c64 : Nat) (A65 : Option Addr) (n65 : Nat) (c65 : Nat) => .agg #[.int .i64 y61.Kind, .int .i64 y61.Shape, .int .i64 y61.Flags, .int .i64 y61.Age, .slice A64 n64 c64, .slice A65 n65 c65]) (fun u => [slC rDValue (cl u 4) y61.Slots, slC rDValue (cl u 5) y61.More]),
 aV (.pointer (some ⟨B23, 0, none⟩)),
 aV (.pointer (some ⟨B23, 0, none⟩)),
 aV (.pointer (some ⟨B23, 2, none⟩)),
 aV (.agg #[.slice A50 n50 c50, .slice A51 n51 c51]),
 aV (.pointer (some ⟨B23, 0, none⟩)),
 aV (.pointer (some ⟨B23, 0, none⟩)),
 aV (.pointer (some ⟨B23, 5, none⟩)),
 aV (.slice A53 n53 c53),
 aV (.int .i64 p47),
 aV (elemQ (.slice A53 n53 c53) p47.toNat 1 0),
 aV (.int .i64 x66),
 aX6 (fun (A70 : Option Addr) (n70 : Nat) (c70 : Nat) (A71 : Option Addr) (n71 : Nat) (c71 : Nat) => .agg #[.int .i64 y67.Kind, .int .i64 y67.Shape, .int .i64 y67.Flags, .int .i64 y67.Age, .slice A70 n70 c70, .slice A71 n71 c71]) (fun u => [slC rDValue (cl u 4) y67.Slots, slC rDValue (cl u 5) y67.More]),
 aV (.pointer (some ⟨B23, 0, none⟩)),
 aV (.pointer (some ⟨B23, 0, none⟩)),
 aV (.pointer (some ⟨B23, 5, none⟩)),
 aV (.slice A53 n53 c53),
 aX6 (fun (A75 : Option Addr) (n75 : Nat) (c75 : Nat) (A76 : Option Addr) (n76 : Nat) (c76 : Nat) => .agg #[.int .i64 y72.Kind, .int .i64 y72.Shape, .int .i64 y72.Flags, .int .i64 y72.Age, .slice A75 n75 c75, .slice A76 n76 c76]) (fun u => [slC rDValue (cl u 4) y72.Slots, slC rDValue (cl u 5) y72.More]),
 aX (fun (B78 : Nat) => .pointer (some ⟨B78, 0, none⟩)) (fun u => [boxC (pb u) 42 [.int .i64 0, .int .i64 0, .int .i64 0, .int .i64 0, .slice none 0 0, .slice none 0 0]]),
 aX (fun (B80 : Nat) => .pointer (some ⟨B80, 0, none⟩)) (fun u => [boxC (pb u) 42 [.int .i64 0, .int .i64 0, .int .i64 0, .int .i64 0, .slice none 0 0, .slice none 0 0]])] (by kernel_rfl) rfl ?_ ?_ ?_
                · exact qs_nil
                · refine steps_cons rfl ?_ ?_
                  · refine X_op (op_alloc zero42 rfl) rfl ?_
                    rintro _ _ ⟨B79, rfl, rfl⟩
                    exact cvp ⟨_, rfl⟩ (cv_refl _)
                  refine steps_cons rfl ?_ ?_
                  · refine X_op (op_alloc zero42 rfl) rfl ?_
                    rintro _ _ ⟨B77, rfl, rfl⟩
                    exact cvp ⟨_, rfl⟩ (cv_refl _)
                  refine steps_cons rfl ?_ ?_
                  · intro A70 n70 c70 A71 n71 c71
                    refine X_op (op_call (reach_cleaned_ok hy72) call61 rfl (cv_take [0, 1, 7] [] [0, 1, 2, 3, 4, 5, 6, 7, 8, 9, 10] 11 rfl)) rfl ?_
                    rintro _ _ ⟨_, ⟨A73, n73, c73, A74, n74, c74, rfl, rfl⟩, rfl⟩
                    exact cvp ⟨_, _, _, _, _, _, rfl⟩ (cv_refl _)
                  refine steps_cons rfl ?_ ?_
                  · exact X_rd (rd_box1 8 rfl rfl one31 rfl) rfl (cvp rfl (cv_refl _))
                  refine steps_cons rfl ?_ ?_
                  · exact X_ev (ev_fa rfl fa_85_3) rfl (cvp rfl (cv_refl _))
                  refine steps_cons rfl ?_ ?_
                  · exact X_ev (ev_nilCheck rfl) rfl (cvp rfl (cv_refl _))
                  refine steps_cons rfl ?_ ?_
                  · exact X_ev (ev_move rfl) rfl (cvp rfl (cv_refl _))
                  refine steps_cons rfl ?_ ?_
                  · refine X_op (op_call (reach_At_ok hy67) call62 rfl (cv_take [2, 3] [] [0, 1, 2, 3, 4, 5, 6, 7, 8] 9 rfl)) rfl ?_
                    rintro _ _ ⟨_, ⟨A68, n68, c68, A69, n69, c69, rfl, rfl⟩, rfl⟩
                    exact cvp ⟨_, _, _, _, _, _, rfl⟩ ((cv_frz 0 rfl).trans ((cv_frz 1 rfl).trans (cv_refl _)))
                  refine steps_cons rfl ?_ ?_
                  · exact X_rd (rd_elem1 (u := .int .i64 x66) 5 rfl els_sl rfl hx66 one3 (fun _ _ _ h => by rw [show _ = _ from h]; rfl)) rfl (cvp rfl (cv_refl _))
                  refine steps_cons rfl ?_ ?_
                  · exact X_rd (rd_idx 5 rfl els_sl rfl rfl Try.underlying31 size3 lx66 ux66) rfl (cvp rfl (cv_refl _))
                  refine steps_cons rfl ?_ ?_
                  · exact X_ev (ev_move rfl) rfl (cvp rfl (cv_refl _))
                  refine steps_cons rfl ?_ ?_
                  · exact X_rd (rd_box1 8 rfl rfl one31 rfl) rfl (cvp rfl (cv_refl _))
                  refine steps_cons rfl ?_ ?_
                  · exact X_ev (ev_fa rfl fa_85_3) rfl (cvp rfl (cv_refl _))
                  refine steps_cons rfl ?_ ?_
                  · exact X_ev (ev_nilCheck rfl) rfl (cvp rfl (cv_refl _))
                  refine steps_cons rfl ?_ ?_
                  · exact X_ev (ev_move rfl) rfl (cvp rfl (cv_refl _))
                  refine steps_cons rfl ?_ ?_
                  · exact X_rd (rd_boxS (us := [.slice A50 n50 c50, .slice A51 n51 c51]) 8 rfl rfl agg24 rfl) rfl (cvp rfl (cv_refl _))
                  refine steps_cons rfl ?_ ?_
                  · exact X_ev (ev_fa rfl fa_85_1) rfl (cvp rfl (cv_refl _))
                  refine steps_cons rfl ?_ ?_
                  · exact X_ev (ev_nilCheck rfl) rfl (cvp rfl (cv_refl _))
                  refine steps_cons rfl ?_ ?_
                  · exact X_ev (ev_move rfl) rfl (cvp rfl (cv_refl _))
                  refine steps_cons rfl ?_ ?_
                  · intro A59 n59 c59 A60 n60 c60
                    refine X_op (op_call (reach_cleaned_ok hy61) call61 rfl (cv_take [0, 1, 6] [] [0, 1, 2, 3, 4, 5, 6, 7, 8, 9, 10] 11 rfl)) rfl ?_
                    rintro _ _ ⟨_, ⟨A62, n62, c62, A63, n63, c63, rfl, rfl⟩, rfl⟩
                    exact cvp ⟨_, _, _, _, _, _, rfl⟩ (cv_refl _)
                  refine steps_cons rfl ?_ ?_
                  · exact X_rd (rd_box1 8 rfl rfl one31 rfl) rfl (cvp rfl (cv_refl _))
                  refine steps_cons rfl ?_ ?_
                  · exact X_ev (ev_fa rfl fa_85_2) rfl (cvp rfl (cv_refl _))
                  refine steps_cons rfl ?_ ?_
                  · exact X_ev (ev_nilCheck rfl) rfl (cvp rfl (cv_refl _))
                  refine steps_cons rfl ?_ ?_
                  · exact X_ev (ev_move rfl) rfl (cvp rfl (cv_refl _))
                  refine steps_cons rfl ?_ ?_
                  · refine X_op (op_call (reach_At_ok hy56) call62 rfl (cv_take [0, 1] [] [0, 1, 2, 3, 4, 5, 6, 7, 8] 9 rfl)) rfl ?_
                    rintro _ _ ⟨_, ⟨A57, n57, c57, A58, n58, c58, rfl, rfl⟩, rfl⟩
                    exact cvp ⟨_, _, _, _, _, _, rfl⟩ ((cv_frz 0 rfl).trans ((cv_frz 1 rfl).trans (cv_refl _)))
                  refine steps_cons rfl ?_ ?_
                  · exact X_rd (rd_elem1 (u := .int .i64 x55) 4 rfl els_sl rfl hx55 one3 (fun _ _ _ h => by rw [show _ = _ from h]; rfl)) rfl (cvp rfl (cv_refl _))
                  refine steps_cons rfl ?_ ?_
                  · exact X_rd (rd_idx 4 rfl els_sl rfl rfl Try.underlying31 size3 lx55 ux55) rfl (cvp rfl (cv_refl _))
                  refine steps_cons rfl ?_ ?_
                  · exact X_ev (ev_move rfl) rfl (cvp rfl (cv_refl _))
                  refine steps_cons rfl ?_ ?_
                  · exact X_rd (rd_box1 8 rfl rfl one31 rfl) rfl (cvp rfl (cv_refl _))
                  refine steps_cons rfl ?_ ?_
                  · exact X_ev (ev_fa rfl fa_85_2) rfl (cvp rfl (cv_refl _))
                  refine steps_cons rfl ?_ ?_
                  · exact X_ev (ev_nilCheck rfl) rfl (cvp rfl (cv_refl _))
                  refine steps_cons rfl ?_ ?_
                  · exact X_ev (ev_move rfl) rfl (cvp rfl (cv_refl _))
                  refine steps_cons rfl ?_ ?_
                  · exact X_rd (rd_boxS (us := [.slice A48 n48 c48, .slice A49 n49 c49]) 8 rfl rfl agg24 rfl) rfl (cvp rfl (cv_refl _))
                  refine steps_cons rfl ?_ ?_
                  · exact X_ev (ev_fa0 rfl fa_85_0) rfl (cvp rfl (cv_refl _))
                  refine steps_cons rfl ?_ ?_
                  · exact X_ev (ev_nilCheck rfl) rfl (cvp rfl (cv_refl _))
                  refine steps_cons rfl ?_ ?_
                  · exact X_ev (ev_move rfl) rfl (cvp rfl (cv_refl _))
                  exact steps_nil
                · intro A59 n59 c59 A60 n60 c60 A64 n64 c64 A65 n65 c65 A70 n70 c70 A71 n71 c71 A75 n75 c75 A76 n76 c76 B78 B80
                  refine N_sub (t := [(117, .agg #[.int .i64 y61.Kind, .int .i64 y61.Shape, .int .i64 y61.Flags, .int .i64 y61.Age, .slice A64 n64 c64, .slice A65 n65 c65]), (134, .agg #[.int .i64 y72.Kind, .int .i64 y72.Shape, .int .i64 y72.Flags, .int .i64 y72.Age, .slice A75 n75 c75, .slice A76 n76 c76]), (12, .pointer (some ⟨B78, 0, none⟩)), (13, .pointer (some ⟨B80, 0, none⟩)), (8, .bool false), (9, .pointer (some ⟨B23, 0, none⟩)), (11, .int .i64 p47), (97, .int .i64 (y24.length : Int)), (98, .int .i64 p47)]) (L' := [slC rDValue (.slice A59 n59 c59) y56.Slots, slC rDValue (.slice A60 n60 c60) y56.More, slC rDValue (.slice A64 n64 c64) y61.Slots, slC rDValue (.slice A65 n65 c65) y61.More, slC rDValue (.slice A70 n70 c70) y67.Slots, slC rDValue (.slice A71 n71 c71) y67.More, slC rDValue (.slice A75 n75 c75) y72.Slots, slC rDValue (.slice A76 n76 c76) y72.More, boxC B78 42 [.int .i64 0, .int .i64 0, .int .i64 0, .int .i64 0, .slice none 0 0, .slice none 0 0], boxC B80 42 [.int .i64 0, .int .i64 0, .int .i64 0, .int .i64 0, .slice none 0 0, .slice none 0 0], slC rDCell (.slice A48 n48 c48) p48, slC rDCell (.slice A49 n49 c49) p49, slC rDCell (.slice A50 n50 c50) p50, slC rDCell (.slice A51 n51 c51) p51, slC (rInt .i64) (.slice A52 n52 c52) p52, slC (rInt .i64) (.slice A53 n53 c53) p53, mapC ekI evI M20 p31, mapC ekI evI M22 p32, boxC B23 85 [.slice A48 n48 c48, .slice A49 n49 c49, .slice A50 n50 c50, .slice A51 n51 c51, .slice A52 n52 c52, .slice A53 n53 c53, .map (some M20), .map (some M22)]]) ?_ subT (cv_refl _)
                  refine N_opn 36 rfl (by kernel_rfl) (op_store (us := [.int .i64 y61.Kind, .int .i64 y61.Shape, .int .i64 y61.Flags, .int .i64 y61.Age, .slice A64 n64 c64, .slice A65 n65 c65]) (cs' := [.int .i64 y61.Kind, .int .i64 y61.Shape, .int .i64 y61.Flags, .int .i64 y61.Age, .slice A64 n64 c64, .slice A65 n65 c65]) 8 rfl rfl rfl rfl size42 rfl rfl rfl) rfl rfl ?_
                  rintro _ _ rfl
                  refine N_norm ([slC rDValue (.slice A59 n59 c59) y56.Slots, slC rDValue (.slice A60 n60 c60) y56.More, slC rDValue (.slice A64 n64 c64) y61.Slots, slC rDValue (.slice A65 n65 c65) y61.More, slC rDValue (.slice A70 n70 c70) y67.Slots, slC rDValue (.slice A71 n71 c71) y67.More, slC rDValue (.slice A75 n75 c75) y72.Slots, slC rDValue (.slice A76 n76 c76) y72.More, boxC B78 42 [.int .i64 y61.Kind, .int .i64 y61.Shape, .int .i64 y61.Flags, .int .i64 y61.Age, .slice A64 n64 c64, .slice A65 n65 c65], boxC B80 42 [.int .i64 0, .int .i64 0, .int .i64 0, .int .i64 0, .slice none 0 0, .slice none 0 0], slC rDCell (.slice A48 n48 c48) p48, slC rDCell (.slice A49 n49 c49) p49, slC rDCell (.slice A50 n50 c50) p50, slC rDCell (.slice A51 n51 c51) p51, slC (rInt .i64) (.slice A52 n52 c52) p52, slC (rInt .i64) (.slice A53 n53 c53) p53, mapC ekI evI M20 p31, mapC ekI evI M22 p32, boxC B23 85 [.slice A48 n48 c48, .slice A49 n49 c49, .slice A50 n50 c50, .slice A51 n51 c51, .slice A52 n52 c52, .slice A53 n53 c53, .map (some M20), .map (some M22)]]) rfl ?_
                  refine N_opn 37 rfl (by kernel_rfl) (op_store (us := [.int .i64 y72.Kind, .int .i64 y72.Shape, .int .i64 y72.Flags, .int .i64 y72.Age, .slice A75 n75 c75, .slice A76 n76 c76]) (cs' := [.int .i64 y72.Kind, .int .i64 y72.Shape, .int .i64 y72.Flags, .int .i64 y72.Age, .slice A75 n75 c75, .slice A76 n76 c76]) 9 rfl rfl rfl rfl size42 rfl rfl rfl) rfl rfl ?_
                  rintro _ _ rfl
                  refine N_norm ([slC rDValue (.slice A59 n59 c59) y56.Slots, slC rDValue (.slice A60 n60 c60) y56.More, slC rDValue (.slice A64 n64 c64) y61.Slots, slC rDValue (.slice A65 n65 c65) y61.More, slC rDValue (.slice A70 n70 c70) y67.Slots, slC rDValue (.slice A71 n71 c71) y67.More, slC rDValue (.slice A75 n75 c75) y72.Slots, slC rDValue (.slice A76 n76 c76) y72.More, boxC B78 42 [.int .i64 y61.Kind, .int .i64 y61.Shape, .int .i64 y61.Flags, .int .i64 y61.Age, .slice A64 n64 c64, .slice A65 n65 c65], boxC B80 42 [.int .i64 y72.Kind, .int .i64 y72.Shape, .int .i64 y72.Flags, .int .i64 y72.Age, .slice A75 n75 c75, .slice A76 n76 c76], slC rDCell (.slice A48 n48 c48) p48, slC rDCell (.slice A49 n49 c49) p49, slC rDCell (.slice A50 n50 c50) p50, slC rDCell (.slice A51 n51 c51) p51, slC (rInt .i64) (.slice A52 n52 c52) p52, slC (rInt .i64) (.slice A53 n53 c53) p53, mapC ekI evI M20 p31, mapC ekI evI M22 p32, boxC B23 85 [.slice A48 n48 c48, .slice A49 n49 c49, .slice A50 n50 c50, .slice A51 n51 c51, .slice A52 n52 c52, .slice A53 n53 c53, .map (some M20), .map (some M22)]]) rfl ?_
                  refine N_done (by kernel_rfl) ?_
                  refine run ?_
                  refine G_rd (rd_box1 8 rfl rfl one3 rfl) rfl rfl rfl ?_
                  refine run ?_
                  refine G_rd (rd_box1 9 rfl rfl one3 rfl) rfl rfl rfl ?_
                  refine run ?_
                  obtain ⟨b81, hb81, h⟩ := bind_elim h
                  refine G_segb 6 146 b81 ?_ ?_
                  · clear h
                    refine G_case 140 rfl (fun g81 => ?_) (fun g81 => ?_)
                    · have h := cond_t g81 hb81
                      refine run ?_
                      obtain rfl := Option.some.inj h
                      exact G_joined (sub_cons rfl (sub_skip (sub_skip (sub_skip (sub_skip (sub_skip (sub_skip sub_refl rfl) rfl) rfl) rfl) rfl) rfl)) (cv_sel [0, 1, 2, 3, 4, 5, 6, 7, 8, 9, 10, 11, 12, 13, 14, 15, 16, 17, 18] 19 rfl rfl)
                    · have h := cond_f g81 hb81
                      refine run ?_
                      refine G_rd (rd_box1 8 rfl rfl one3 rfl) rfl (g_ff g81 rfl) rfl ?_
                      refine run ?_
                      refine G_rd (rd_box1 9 rfl rfl one3 rfl) rfl (g_ff g81 rfl) rfl ?_
                      refine run ?_
                      obtain rfl := Option.some.inj h
                      exact G_joined (sub_cons rfl (sub_skip (sub_skip (sub_skip (sub_skip (sub_skip (sub_skip sub_refl rfl) rfl) rfl) rfl) rfl) rfl)) (cv_sel [0, 1, 2, 3, 4, 5, 6, 7, 8, 9, 10, 11, 12, 13, 14, 15, 16, 17, 18] 19 rfl rfl)
                  refine run ?_
                  obtain ⟨b82, hb82, h⟩ := bind_elim h
                  refine G_segb 6 153 b82 ?_ ?_
                  · clear h
                    refine G_case 147 rfl (fun g82 => ?_) (fun g82 => ?_)
                    · have h := cond_t g82 hb82
                      refine run ?_
                      obtain rfl := Option.some.inj h
                      exact G_joined (sub_cons rfl (sub_skip (sub_skip (sub_skip (sub_skip (sub_skip (sub_skip sub_refl rfl) rfl) rfl) rfl) rfl) rfl)) (cv_sel [0, 1, 2, 3, 4, 5, 6, 7, 8, 9, 10, 11, 12, 13, 14, 15, 16, 17, 18] 19 rfl rfl)
                    · have h := cond_f g82 hb82
                      refine run ?_
                      refine G_rd (rd_box1 8 rfl rfl one3 rfl) rfl (g_ff g82 rfl) rfl ?_
                      refine run ?_
                      refine G_rd (rd_box1 9 rfl rfl one3 rfl) rfl (g_ff g82 rfl) rfl ?_
                      refine run ?_
                      obtain rfl := Option.some.inj h
                      exact G_joined (sub_cons rfl (sub_skip (sub_skip (sub_skip (sub_skip (sub_skip (sub_skip sub_refl rfl) rfl) rfl) rfl) rfl) rfl)) (cv_sel [0, 1, 2, 3, 4, 5, 6, 7, 8, 9, 10, 11, 12, 13, 14, 15, 16, 17, 18] 19 rfl rfl)
                  refine run ?_
                  obtain ⟨b83, hb83, h⟩ := bind_elim h
                  refine G_segb 8 162 b83 ?_ ?_
                  · clear h
                    refine G_case 154 rfl (fun g83 => ?_) (fun g83 => ?_)
                    · have h := cond_t g83 hb83
                      refine run ?_
                      obtain rfl := Option.some.inj h
                      exact G_joined (sub_cons rfl (sub_skip (sub_skip (sub_skip (sub_skip (sub_skip (sub_skip (sub_skip (sub_skip sub_refl rfl) rfl) rfl) rfl) rfl) rfl) rfl) rfl)) (cv_sel [0, 1, 2, 3, 4, 5, 6, 7, 8, 9, 10, 11, 12, 13, 14, 15, 16, 17, 18] 19 rfl rfl)
                    · have h := cond_f g83 hb83
                      refine run ?_
                      refine G_rd (rd_box1 8 rfl rfl one25 rfl) rfl (g_ff g83 rfl) rfl ?_
                      refine run ?_
                      refine G_rd (rd_box1 9 rfl rfl one25 rfl) rfl (g_ff g83 rfl) rfl ?_
                      obtain ⟨y84, hy84, h⟩ := bind_elim h
                      refine G_opd (op_callR (reach_twins_values_ok hy84) call60 rfl (mem_cons (lent_box (i := 18) rfl) (mem_cons (lent_ro (i := 10) rfl rfl) (mem_cons (lent_ro (i := 11) rfl rfl) (mem_cons (lent_ro (i := 12) rfl rfl) (mem_cons (lent_ro (i := 13) rfl rfl) (mem_cons (lent_ro (i := 14) rfl rfl) (mem_cons (lent_ro (i := 15) rfl rfl) (mem_cons (lent_map (i := 16) rfl) (mem_cons (lent_map (i := 17) rfl) (mem_cons (lent_ro (i := 2) rfl rfl) (mem_cons (lent_ro (i := 6) rfl rfl) mem_nil))))))))))) reach_twins_values_free) rfl (g_ff g83 rfl) rfl ?_
                      rintro _ _ ⟨_, ⟨rfl, rfl⟩, rfl⟩
                      refine run ?_
                      obtain rfl := Option.some.inj h
                      exact G_joined (sub_cons rfl (sub_skip (sub_skip (sub_skip (sub_skip (sub_skip (sub_skip (sub_skip (sub_skip sub_refl rfl) rfl) rfl) rfl) rfl) rfl) rfl) rfl)) (cv_sel [0, 1, 2, 3, 4, 5, 6, 7, 8, 9, 10, 11, 12, 13, 14, 15, 16, 17, 18] 19 rfl rfl)
                  refine run ?_
                  obtain ⟨b85, hb85, h⟩ := bind_elim h
                  refine G_segb 8 171 b85 ?_ ?_
                  · clear h
                    refine G_case 163 rfl (fun g85 => ?_) (fun g85 => ?_)
                    · have h := cond_t g85 hb85
                      refine run ?_
                      obtain rfl := Option.some.inj h
                      exact G_joined (sub_cons rfl (sub_skip (sub_skip (sub_skip (sub_skip (sub_skip (sub_skip (sub_skip (sub_skip sub_refl rfl) rfl) rfl) rfl) rfl) rfl) rfl) rfl)) (cv_sel [0, 1, 2, 3, 4, 5, 6, 7, 8, 9, 10, 11, 12, 13, 14, 15, 16, 17, 18] 19 rfl rfl)
                    · have h := cond_f g85 hb85
                      refine run ?_
                      refine G_rd (rd_box1 8 rfl rfl one25 rfl) rfl (g_ff g85 rfl) rfl ?_
                      refine run ?_
                      refine G_rd (rd_box1 9 rfl rfl one25 rfl) rfl (g_ff g85 rfl) rfl ?_
                      obtain ⟨y86, hy86, h⟩ := bind_elim h
                      refine G_opd (op_callR (reach_twins_values_ok hy86) call60 rfl (mem_cons (lent_box (i := 18) rfl) (mem_cons (lent_ro (i := 10) rfl rfl) (mem_cons (lent_ro (i := 11) rfl rfl) (mem_cons (lent_ro (i := 12) rfl rfl) (mem_cons (lent_ro (i := 13) rfl rfl) (mem_cons (lent_ro (i := 14) rfl rfl) (mem_cons (lent_ro (i := 15) rfl rfl) (mem_cons (lent_map (i := 16) rfl) (mem_cons (lent_map (i := 17) rfl) (mem_cons (lent_ro (i := 3) rfl rfl) (mem_cons (lent_ro (i := 7) rfl rfl) mem_nil))))))))))) reach_twins_values_free) rfl (g_ff g85 rfl) rfl ?_
                      rintro _ _ ⟨_, ⟨rfl, rfl⟩, rfl⟩
                      refine run ?_
                      obtain rfl := Option.some.inj h
                      exact G_joined (sub_cons rfl (sub_skip (sub_skip (sub_skip (sub_skip (sub_skip (sub_skip (sub_skip (sub_skip sub_refl rfl) rfl) rfl) rfl) rfl) rfl) rfl) rfl)) (cv_sel [0, 1, 2, 3, 4, 5, 6, 7, 8, 9, 10, 11, 12, 13, 14, 15, 16, 17, 18] 19 rfl rfl)
                  refine run ?_
                  refine G_cond rfl (fun g87 => ?_) (fun g87 => ?_)
                  · replace h := cond_t g87 h
                    refine run ?_
                    obtain rfl := Option.some.inj h
                    exact endG1 rfl rfl (cv_sel [] 19 rfl rfl) ⟨rfl, rfl⟩
                  · replace h := cond_f g87 h
                    refine run ?_
                    obtain ⟨q88, h⟩ := req_elim h
                    refine G_ev (ev_add rfl rfl q88.1 q88.2) rfl rfl rfl ?_
                    refine run ?_
                    exact ⟨m46, _, _, Nat.lt_succ_self _, ⟨p47 + 1, p48, p49, p50, p51, p52, p53, A48, n48, c48, A49, n49, c49, A50, n50, c50, A51, n51, c51, A52, n52, c52, A53, n53, c53, h, rfl, rfl⟩, sub_cons rfl (sub_cons rfl (sub_cons rfl (sub_cons rfl sub_nil))), cv_sel [10, 11, 12, 13, 14, 15, 16, 17, 18] 19 rfl rfl⟩
              · replace h := cond_f g54 h
                refine run ?_
                exact ⟨_, _, ⟨h, rfl, rfl⟩, sub_cons rfl sub_nil, cv_sel [] 9 rfl rfl⟩
            · rintro _ _ ⟨h, rfl, rfl⟩
              refine run ?_
              obtain rfl := Option.some.inj h
              exact endG1 rfl rfl (cv_sel [] 0 rfl rfl) ⟨rfl, rfl⟩
theorem reach_Alike_free {r : Bool} : ∀ v post, ((fun (u : Value) (post : List Chunk) => u = .bool r ∧ post = [])) v post → ∀ c ∈ post, Free c := by
  rintro _ _ ⟨rfl, rfl⟩; exact mem_nil
def pantomimelaw19_ReachNothing_j30 (N : Nat) (a1 : (List DValue)) (y8 : ((List Int))) (y10 : ((List Int))) (a0 : DMemory) (p17 : (List DCell)) (p31 : (List DCell)) : Option Bool :=
  (reach_Live_O N (⟨p17, p31⟩ : DMemory) a1).bind fun y44 => (pantomimeref19_Same_O N y44 y8).bind fun y46 => (bif y46 then ((reach_Order_O N (⟨p17, p31⟩ : DMemory) a1).bind fun y48 => (pantomimeref19_Same_O N y48 y10).bind fun y50 => some y50) else (some false)).bind fun b47 => (bif b47 then ((reach_Alike_O N a0 a1 (⟨p17, p31⟩ : DMemory) a1).bind fun y52 => some y52) else (some false)).bind fun b51 => (bif b51 then ((pantomimelaw19_goes_O N).bind fun y54 => some y54) else (some false)).bind fun b53 => some b53
def pantomimelaw19_ReachNothing_j36 (N : Nat) (kb32 : Int → (List DCell) → Option Bool) (y12 : (DMemory)) (p33 : Int) (a1 : (List DValue)) (y8 : ((List Int))) (y10 : ((List Int))) (a0 : DMemory) (p17 : (List DCell)) (p37 : (List DCell)) : Option Bool :=
  req (in64 (p33 + 1)) (kb32 (p33 + 1) p37)
def pantomimelaw19_ReachNothing_l32 (N : Nat) (y12 : (DMemory)) (a1 : (List DValue)) (y8 : ((List Int))) (y10 : ((List Int))) (a0 : DMemory) (p17 : (List DCell)) : Nat → Int → (List DCell) → Option Bool
  | 0, _, _ => none
  | m32 + 1, p33, p34 => bif decide (p33 < (y12.Old.length : Int)) then (req (in64 (2 * p33)) (req (in64 ((2 * p33) + 2)) ((pantomimeref19_In_O N y8 ((2 * p33) + 2)).bind fun y40 => bif !y40 then ((getE p34 p33).bind fun x42 => pantomimelaw19_ReachNothing_j36 N (pantomimelaw19_ReachNothing_l32 N y12 a1 y8 y10 a0 p17 m32) y12 p33 a1 y8 y10 a0 p17 (List.set p34 p33.toNat (⟨0, 0, 0, 0, [], []⟩ : DCell))) else (pantomimelaw19_ReachNothing_j36 N (pantomimelaw19_ReachNothing_l32 N y12 a1 y8 y10 a0 p17 m32) y12 p33 a1 y8 y10 a0 p17 p34)))) else (pantomimelaw19_ReachNothing_j30 N a1 y8 y10 a0 p17 p34)
theorem pantomimelaw19_ReachNothing_l32_s {N m32 : Nat} {y12 : (DMemory)} {a1 : (List DValue)} {y8 : ((List Int))} {y10 : ((List Int))} {a0 : DMemory} {p17 : (List DCell)} {p33 : Int} {p34 : (List DCell)} : pantomimelaw19_ReachNothing_l32 N y12 a1 y8 y10 a0 p17 (m32 + 1) p33 p34 = bif decide (p33 < (y12.Old.length : Int)) then (req (in64 (2 * p33)) (req (in64 ((2 * p33) + 2)) ((pantomimeref19_In_O N y8 ((2 * p33) + 2)).bind fun y40 => bif !y40 then ((getE p34 p33).bind fun x42 => pantomimelaw19_ReachNothing_j36 N (pantomimelaw19_ReachNothing_l32 N y12 a1 y8 y10 a0 p17 m32) y12 p33 a1 y8 y10 a0 p17 (List.set p34 p33.toNat (⟨0, 0, 0, 0, [], []⟩ : DCell))) else (pantomimelaw19_ReachNothing_j36 N (pantomimelaw19_ReachNothing_l32 N y12 a1 y8 y10 a0 p17 m32) y12 p33 a1 y8 y10 a0 p17 p34)))) else (pantomimelaw19_ReachNothing_j30 N a1 y8 y10 a0 p17 p34) := rfl
def pantomimelaw19_ReachNothing_j16 (N : Nat) (a1 : (List DValue)) (y8 : ((List Int))) (y10 : ((List Int))) (a0 : DMemory) (y12 : (DMemory)) (p17 : (List DCell)) : Option Bool :=
  pantomimelaw19_ReachNothing_l32 N y12 a1 y8 y10 a0 p17 N 0 y12.Old
def pantomimelaw19_ReachNothing_j22 (N : Nat) (kb18 : Int → (List DCell) → Option Bool) (y12 : (DMemory)) (p19 : Int) (a1 : (List DValue)) (y8 : ((List Int))) (y10 : ((List Int))) (a0 : DMemory) (p23 : (List DCell)) : Option Bool :=
  req (in64 (p19 + 1)) (kb18 (p19 + 1) p23)
def pantomimelaw19_ReachNothing_l18 (N : Nat) (y12 : (DMemory)) (a1 : (List DValue)) (y8 : ((List Int))) (y10 : ((List Int))) (a0 : DMemory) : Nat → Int → (List DCell) → Option Bool
  | 0, _, _ => none
  | m18 + 1, p19, p20 => bif decide (p19 < (y12.Young.length : Int)) then (req (in64 (2 * p19)) (req (in64 ((2 * p19) + 1)) ((pantomimeref19_In_O N y8 ((2 * p19) + 1)).bind fun y26 => bif !y26 then ((getE p20 p19).bind fun x28 => pantomimelaw19_ReachNothing_j22 N (pantomimelaw19_ReachNothing_l18 N y12 a1 y8 y10 a0 m18) y12 p19 a1 y8 y10 a0 (List.set p20 p19.toNat (⟨0, 0, 0, 0, [], []⟩ : DCell))) else (pantomimelaw19_ReachNothing_j22 N (pantomimelaw19_ReachNothing_l18 N y12 a1 y8 y10 a0 m18) y12 p19 a1 y8 y10 a0 p20)))) else (pantomimelaw19_ReachNothing_j16 N a1 y8 y10 a0 y12 p20)
theorem pantomimelaw19_ReachNothing_l18_s {N m18 : Nat} {y12 : (DMemory)} {a1 : (List DValue)} {y8 : ((List Int))} {y10 : ((List Int))} {a0 : DMemory} {p19 : Int} {p20 : (List DCell)} : pantomimelaw19_ReachNothing_l18 N y12 a1 y8 y10 a0 (m18 + 1) p19 p20 = bif decide (p19 < (y12.Young.length : Int)) then (req (in64 (2 * p19)) (req (in64 ((2 * p19) + 1)) ((pantomimeref19_In_O N y8 ((2 * p19) + 1)).bind fun y26 => bif !y26 then ((getE p20 p19).bind fun x28 => pantomimelaw19_ReachNothing_j22 N (pantomimelaw19_ReachNothing_l18 N y12 a1 y8 y10 a0 m18) y12 p19 a1 y8 y10 a0 (List.set p20 p19.toNat (⟨0, 0, 0, 0, [], []⟩ : DCell))) else (pantomimelaw19_ReachNothing_j22 N (pantomimelaw19_ReachNothing_l18 N y12 a1 y8 y10 a0 m18) y12 p19 a1 y8 y10 a0 p20)))) else (pantomimelaw19_ReachNothing_j16 N a1 y8 y10 a0 y12 p20) := rfl
def pantomimelaw19_ReachNothing_O (N : Nat) (a0 : DMemory) (a1 : (List DValue)) : Option Bool :=
  (pantomimeref19_Few_O N a0 a1).bind fun y5 => bif !y5 then ((pantomimelaw19_goes_O N).bind fun y7 => some y7) else ((reach_Live_O N a0 a1).bind fun y8 => (reach_Order_O N a0 a1).bind fun y10 => (pantomimeref19_Copied_O N a0).bind fun y12 => pantomimelaw19_ReachNothing_l18 N y12 a1 y8 y10 a0 N 0 y12.Young)
theorem pantomimelaw19_ReachNothing_ok {N : Nat} {a0 : DMemory} {a1 : (List DValue)} {r : Bool} (h : pantomimelaw19_ReachNothing_O N a0 a1 = some r) {A1 : Option Addr} {n1 c1 : Nat} {A2 : Option Addr} {n2 c2 : Nat} {A3 : Option Addr} {n3 c3 : Nat} : Okc Try.prog 5 [.agg #[.slice A1 n1 c1, .slice A2 n2 c2], .slice A3 n3 c3] ([slC rDCell (.slice A1 n1 c1) a0.Young, slC rDCell (.slice A2 n2 c2) a0.Old, slC rDValue (.slice A3 n3 c3) a1]) (fun (u : Value) (post : List Chunk) => u = .bool r ∧ post = []) := by
  refine ok_E Try.func5 rfl rfl ?_
  simp only [envOf]
  refine run ?_
  refine G_opd (op_box rfl rfl) rfl rfl rfl ?_
  rintro _ _ ⟨B4, rfl, rfl⟩
  refine run ?_
  refine G_seq ?_
  refine run ?_
  refine G_rd (rd_boxS (us := [.slice A1 n1 c1, .slice A2 n2 c2]) 0 rfl rfl agg24 rfl) rfl rfl rfl ?_
  refine run ?_
  obtain ⟨y5, hy5, h⟩ := bind_elim h
  refine G_opd (op_callR (pantomimeref19_Few_ok hy5) call14 rfl (mem_cons (lent_ro (i := 1) rfl rfl) (mem_cons (lent_ro (i := 2) rfl rfl) (mem_cons (lent_ro (i := 3) rfl rfl) mem_nil))) pantomimeref19_Few_free) rfl rfl rfl ?_
  rintro _ _ ⟨_, ⟨rfl, rfl⟩, rfl⟩
  refine run ?_
  refine G_cond rfl (fun g6 => ?_) (fun g6 => ?_)
  · replace h := cond_t g6 h
    refine run ?_
    obtain ⟨y7, hy7, h⟩ := bind_elim h
    refine G_opd (op_callR (pantomimelaw19_goes_ok hy7) call15 rfl (mem_nil) pantomimelaw19_goes_free) rfl rfl rfl ?_
    rintro _ _ ⟨_, ⟨rfl, rfl⟩, rfl⟩
    refine run ?_
    obtain rfl := Option.some.inj h
    exact endG1 rfl rfl (cv_sel [] 4 rfl rfl) ⟨rfl, rfl⟩
  · replace h := cond_f g6 h
    refine run ?_
    refine G_seq ?_
    refine G_drawn (by kernel_rfl) _ (cv_refl _) ?_
    refine T3_rd 0 rfl (by kernel_rfl) (rd_boxS (us := [.slice A1 n1 c1, .slice A2 n2 c2]) 0 rfl rfl agg24 rfl) rfl rfl ?_
    refine T3_ev 1 rfl (by kernel_rfl) (ev_move rfl) rfl rfl ?_
    refine T3_rd 3 rfl (by kernel_rfl) (rd_boxS (us := [.slice A1 n1 c1, .slice A2 n2 c2]) 0 rfl rfl agg24 rfl) rfl rfl ?_
    refine T3_ev 4 rfl (by kernel_rfl) (ev_move rfl) rfl rfl ?_
    obtain ⟨y8, hy8, h⟩ := bind_elim h
    refine T3_opd 2 rfl (by kernel_rfl) (op_callR (reach_Live_ok hy8) call16 rfl (mem_cons (lent_ro (i := 1) rfl rfl) (mem_cons (lent_ro (i := 2) rfl rfl) (mem_cons (lent_ro (i := 3) rfl rfl) mem_nil))) reach_Live_free) rfl rfl rfl ?_
    rintro _ _ ⟨_, ⟨A9, n9, c9, rfl, rfl⟩, rfl⟩
    refine ⟨[boxC B4 24 [.slice A1 n1 c1, .slice A2 n2 c2], slC rDCell (.slice A1 n1 c1) a0.Young, slC rDCell (.slice A2 n2 c2) a0.Old, slC rDValue (.slice A3 n3 c3) a1], cv_sel [1, 2, 3, 4] 5 rfl rfl, cv_refl _, ?_⟩
    obtain ⟨y10, hy10, h⟩ := bind_elim h
    refine T3_opd 5 rfl (by kernel_rfl) (op_callR (reach_Order_ok hy10) call23 rfl (mem_cons (lent_ro (i := 2) rfl rfl) (mem_cons (lent_ro (i := 3) rfl rfl) (mem_cons (lent_ro (i := 4) rfl rfl) mem_nil))) reach_Order_free) rfl rfl rfl ?_
    rintro _ _ ⟨_, ⟨A11, n11, c11, rfl, rfl⟩, rfl⟩
    refine ⟨[boxC B4 24 [.slice A1 n1 c1, .slice A2 n2 c2], slC rDCell (.slice A1 n1 c1) a0.Young, slC rDCell (.slice A2 n2 c2) a0.Old, slC rDValue (.slice A3 n3 c3) a1], cv_sel [2, 3, 4, 5] 6 rfl rfl, cv_refl _, ?_⟩
    refine T3_ev 6 rfl (by kernel_rfl) (ev_assign rfl) rfl rfl ?_
    refine T3_ev 7 rfl (by kernel_rfl) (ev_assign rfl) rfl rfl ?_
    refine T3_done (by kernel_rfl) ?_
    refine run ?_
    refine G_rd (rd_boxS (us := [.slice A1 n1 c1, .slice A2 n2 c2]) 2 rfl rfl agg24 rfl) rfl rfl rfl ?_
    obtain ⟨y12, hy12, h⟩ := bind_elim h
    refine G_opd (op_call (pantomimeref19_Copied_ok hy12) call24 rfl (cv_take [3, 4] [] [0, 1, 2, 3, 4, 5] 6 rfl)) rfl rfl rfl ?_
    rintro _ _ ⟨_, ⟨A13, n13, c13, A14, n14, c14, rfl, rfl⟩, rfl⟩
    refine G_norm ([ownC rDCell 42 (.slice A13 n13 c13) y12.Young, ownC rDCell 42 (.slice A14 n14 c14) y12.Old, ownC (rInt .i64) 3 (.slice A11 n11 c11) y10, ownC (rInt .i64) 3 (.slice A9 n9 c9) y8, boxC B4 24 [.slice A1 n1 c1, .slice A2 n2 c2], slC rDCell (.slice A1 n1 c1) a0.Young, slC rDCell (.slice A2 n2 c2) a0.Old, slC rDValue (.slice A3 n3 c3) a1]) rfl ?_
    refine G_opd (op_alloc zero24 rfl) rfl rfl rfl ?_
    rintro _ _ ⟨B15, rfl, rfl⟩
    refine G_opn (op_store (us := [.slice A13 n13 c13, .slice A14 n14 c14]) (cs' := [.slice A13 n13 c13, .slice A14 n14 c14]) 0 rfl rfl rfl rfl size24 rfl rfl rfl) rfl rfl ?_
    rintro _ _ rfl
    refine G_norm ([boxC B15 24 [.slice A13 n13 c13, .slice A14 n14 c14], ownC rDCell 42 (.slice A13 n13 c13) y12.Young, ownC rDCell 42 (.slice A14 n14 c14) y12.Old, ownC (rInt .i64) 3 (.slice A11 n11 c11) y10, ownC (rInt .i64) 3 (.slice A9 n9 c9) y8, boxC B4 24 [.slice A1 n1 c1, .slice A2 n2 c2], slC rDCell (.slice A1 n1 c1) a0.Young, slC rDCell (.slice A2 n2 c2) a0.Old, slC rDValue (.slice A3 n3 c3) a1]) rfl ?_
    refine run ?_
    refine G_joinF (fun s L => ∃ (p17 : (List DCell)) (A17 : Option Addr) (n17 c17 : Nat), pantomimelaw19_ReachNothing_j16 N a1 y8 y10 a0 y12 p17 = some r ∧ s = [(1, .slice A3 n3 c3), (2, .pointer (some ⟨B4, 0, none⟩)), (4, .bool false), (5, .slice A9 n9 c9), (6, .slice A11 n11 c11), (7, .pointer (some ⟨B15, 0, none⟩))] ∧ L = [slC rDValue (.slice A3 n3 c3) a1, ownC (rInt .i64) 3 (.slice A9 n9 c9) y8, ownC (rInt .i64) 3 (.slice A11 n11 c11) y10, slC rDCell (.slice A1 n1 c1) a0.Young, slC rDCell (.slice A2 n2 c2) a0.Old, boxC B4 24 [.slice A1 n1 c1, .slice A2 n2 c2], ownC rDCell 42 (.slice A17 n17 c17) p17, ownC rDCell 42 (.slice A14 n14 c14) y12.Old, boxC B15 24 [.slice A17 n17 c17, .slice A14 n14 c14]]) ?_ ?_
    · refine run ?_
      refine G_rd (rd_len 1 rfl els_own rfl Try.underlying22) rfl rfl rfl ?_
      refine run ?_
      refine G_loopF (fun m s L => ∃ (p19 : Int) (p20 : (List DCell)) (A20 : Option Addr) (n20 c20 : Nat), pantomimelaw19_ReachNothing_l18 N y12 a1 y8 y10 a0 m p19 p20 = some r ∧ s = [(1, .slice A3 n3 c3), (2, .pointer (some ⟨B4, 0, none⟩)), (4, .bool false), (5, .slice A9 n9 c9), (6, .slice A11 n11 c11), (7, .pointer (some ⟨B15, 0, none⟩)), (25, .int .i64 (y12.Young.length : Int)), (26, .int .i64 p19)] ∧ L = [slC rDValue (.slice A3 n3 c3) a1, ownC (rInt .i64) 3 (.slice A9 n9 c9) y8, ownC (rInt .i64) 3 (.slice A11 n11 c11) y10, slC rDCell (.slice A1 n1 c1) a0.Young, slC rDCell (.slice A2 n2 c2) a0.Old, boxC B4 24 [.slice A1 n1 c1, .slice A2 n2 c2], ownC rDCell 42 (.slice A20 n20 c20) p20, ownC rDCell 42 (.slice A14 n14 c14) y12.Old, boxC B15 24 [.slice A20 n20 c20, .slice A14 n14 c14]]) N _ _ ⟨0, y12.Young, A13, n13, c13, h, rfl, rfl⟩ (sub_cons rfl (sub_cons rfl (sub_cons rfl (sub_cons rfl (sub_cons rfl (sub_cons rfl (sub_cons rfl (sub_cons rfl sub_nil)))))))) (cv_sel [8, 4, 3, 6, 7, 5, 1, 2, 0] 9 rfl rfl) ?_
      rintro (_ | m18) _ _ ⟨p19, p20, A20, n20, c20, h, rfl, rfl⟩
      · exact none_some h
      rw [pantomimelaw19_ReachNothing_l18_s] at h
      refine run ?_
      refine G_seq ?_
      refine G_cond rfl (fun g21 => ?_) (fun g21 => ?_)
      · replace h := cond_t g21 h
        refine run ?_
        refine G_joinF (fun s L => ∃ (p23 : (List DCell)) (A23 : Option Addr) (n23 c23 : Nat), pantomimelaw19_ReachNothing_j22 N (pantomimelaw19_ReachNothing_l18 N y12 a1 y8 y10 a0 m18) y12 p19 a1 y8 y10 a0 p23 = some r ∧ s = [(1, .slice A3 n3 c3), (2, .pointer (some ⟨B4, 0, none⟩)), (4, .bool false), (5, .slice A9 n9 c9), (6, .slice A11 n11 c11), (7, .pointer (some ⟨B15, 0, none⟩)), (25, .int .i64 (y12.Young.length : Int)), (26, .int .i64 p19)] ∧ L = [slC rDValue (.slice A3 n3 c3) a1, ownC (rInt .i64) 3 (.slice A9 n9 c9) y8, ownC (rInt .i64) 3 (.slice A11 n11 c11) y10, slC rDCell (.slice A1 n1 c1) a0.Young, slC rDCell (.slice A2 n2 c2) a0.Old, boxC B4 24 [.slice A1 n1 c1, .slice A2 n2 c2], ownC rDCell 42 (.slice A23 n23 c23) p23, ownC rDCell 42 (.slice A14 n14 c14) y12.Old, boxC B15 24 [.slice A23 n23 c23, .slice A14 n14 c14]]) ?_ ?_
        · refine run ?_
          obtain ⟨q24, h⟩ := req_elim h
          refine G_ev (ev_mul rfl rfl q24.1 q24.2) rfl rfl rfl ?_
          obtain ⟨q25, h⟩ := req_elim h
          refine G_ev (ev_add rfl rfl q25.1 q25.2) rfl rfl rfl ?_
          obtain ⟨y26, hy26, h⟩ := bind_elim h
          refine G_opd (op_callR (pantomimeref19_In_ok hy26) call18 rfl (mem_cons (lent_own (i := 1) rfl) mem_nil) pantomimeref19_In_free) rfl rfl rfl ?_
          rintro _ _ ⟨_, ⟨rfl, rfl⟩, rfl⟩
          refine run ?_
          refine G_cond rfl (fun g27 => ?_) (fun g27 => ?_)
          · replace h := cond_t g27 h
            refine run ?_
            refine G_rd (rd_box1 8 rfl rfl one22 rfl) rfl rfl rfl ?_
            refine run ?_
            refine G_ev (ev_build rfl (bld_42_)) rfl rfl rfl ?_
            obtain ⟨x28, hx28, h⟩ := bind_elim h
            obtain ⟨lx28, ux28, hx28⟩ := getE_elim hx28
            refine G_rd (rd_idx 6 rfl els_own rfl rfl Try.underlying22 size42 lx28 ux28) rfl rfl rfl ?_
            refine G_opn (op_storeE (us := [.int .i64 0, .int .i64 0, .int .i64 0, .int .i64 0, .slice none 0 0, .slice none 0 0]) (z := (⟨0, 0, 0, 0, [], []⟩ : DCell)) 6 rfl rfl rfl rfl size42 rfl (toNat_lt lx28 ux28) rfl (fun S w vs xk hk hr ho => by obtain rfl := Option.some.inj (hk.symm.trans hx28); obtain ⟨_, _, _, _, _, _, rfl, s4, s5⟩ := hr; exact ⟨_, _, _, _, _, _, rfl, slR_nil _ _ _, slR_nil _ _ _⟩)) rfl rfl ?_
            rintro _ _ rfl
            refine G_norm ([slC rDValue (.slice A3 n3 c3) a1, ownC (rInt .i64) 3 (.slice A9 n9 c9) y8, ownC (rInt .i64) 3 (.slice A11 n11 c11) y10, slC rDCell (.slice A1 n1 c1) a0.Young, slC rDCell (.slice A2 n2 c2) a0.Old, boxC B4 24 [.slice A1 n1 c1, .slice A2 n2 c2], ownC rDCell 42 (.slice A20 n20 c20) (List.set p20 p19.toNat (⟨0, 0, 0, 0, [], []⟩ : DCell)), ownC rDCell 42 (.slice A14 n14 c14) y12.Old, boxC B15 24 [.slice A20 n20 c20, .slice A14 n14 c14]]) rfl ?_
            refine run ?_
            exact ⟨_, _, ⟨List.set p20 p19.toNat (⟨0, 0, 0, 0, [], []⟩ : DCell), A20, n20, c20, h, rfl, rfl⟩, sub_cons rfl (sub_cons rfl (sub_cons rfl (sub_cons rfl (sub_cons rfl (sub_cons rfl (sub_cons rfl (sub_cons rfl sub_nil))))))), cv_sel [0, 1, 2, 3, 4, 5, 6, 7, 8] 9 rfl rfl⟩
          · replace h := cond_f g27 h
            refine run ?_
            exact ⟨_, _, ⟨p20, A20, n20, c20, h, rfl, rfl⟩, sub_cons rfl (sub_cons rfl (sub_cons rfl (sub_cons rfl (sub_cons rfl (sub_cons rfl (sub_cons rfl (sub_cons rfl sub_nil))))))), cv_sel [0, 1, 2, 3, 4, 5, 6, 7, 8] 9 rfl rfl⟩
        · rintro _ _ ⟨p23, A23, n23, c23, h, rfl, rfl⟩
          refine G_region ?_
          obtain ⟨q29, h⟩ := req_elim h
          refine G_ev (ev_add rfl rfl q29.1 q29.2) rfl rfl rfl ?_
          refine run ?_
          exact ⟨m18, _, _, Nat.lt_succ_self _, ⟨p19 + 1, p23, A23, n23, c23, h, rfl, rfl⟩, sub_cons rfl (sub_cons rfl (sub_cons rfl (sub_cons rfl (sub_cons rfl (sub_cons rfl (sub_cons rfl (sub_cons rfl sub_nil))))))), cv_sel [0, 1, 2, 3, 4, 5, 6, 7, 8] 9 rfl rfl⟩
      · replace h := cond_f g21 h
        refine run ?_
        exact ⟨_, _, ⟨p20, A20, n20, c20, h, rfl, rfl⟩, sub_cons rfl (sub_cons rfl (sub_cons rfl (sub_cons rfl (sub_cons rfl (sub_cons rfl sub_nil))))), cv_sel [0, 1, 2, 3, 4, 5, 6, 7, 8] 9 rfl rfl⟩
    · rintro _ _ ⟨p17, A17, n17, c17, h, rfl, rfl⟩
      refine G_joinF (fun s L => ∃ (p31 : (List DCell)) (A31 : Option Addr) (n31 c31 : Nat), pantomimelaw19_ReachNothing_j30 N a1 y8 y10 a0 p17 p31 = some r ∧ s = [(1, .slice A3 n3 c3), (2, .pointer (some ⟨B4, 0, none⟩)), (4, .bool false), (5, .slice A9 n9 c9), (6, .slice A11 n11 c11), (7, .pointer (some ⟨B15, 0, none⟩))] ∧ L = [slC rDValue (.slice A3 n3 c3) a1, ownC (rInt .i64) 3 (.slice A9 n9 c9) y8, ownC (rInt .i64) 3 (.slice A11 n11 c11) y10, slC rDCell (.slice A1 n1 c1) a0.Young, slC rDCell (.slice A2 n2 c2) a0.Old, boxC B4 24 [.slice A1 n1 c1, .slice A2 n2 c2], ownC rDCell 42 (.slice A17 n17 c17) p17, ownC rDCell 42 (.slice A31 n31 c31) p31, boxC B15 24 [.slice A17 n17 c17, .slice A31 n31 c31]]) ?_ ?_
      · refine run ?_
        refine G_rd (rd_box1 8 rfl rfl one22 rfl) rfl rfl rfl ?_
        refine G_rd (rd_len 7 rfl els_own rfl Try.underlying22) rfl rfl rfl ?_
        refine run ?_
        refine G_loopF (fun m s L => ∃ (p33 : Int) (p34 : (List DCell)) (A34 : Option Addr) (n34 c34 : Nat), pantomimelaw19_ReachNothing_l32 N y12 a1 y8 y10 a0 p17 m p33 p34 = some r ∧ s = [(1, .slice A3 n3 c3), (2, .pointer (some ⟨B4, 0, none⟩)), (4, .bool false), (5, .slice A9 n9 c9), (6, .slice A11 n11 c11), (7, .pointer (some ⟨B15, 0, none⟩)), (43, .int .i64 (y12.Old.length : Int)), (44, .int .i64 p33)] ∧ L = [slC rDValue (.slice A3 n3 c3) a1, ownC (rInt .i64) 3 (.slice A9 n9 c9) y8, ownC (rInt .i64) 3 (.slice A11 n11 c11) y10, slC rDCell (.slice A1 n1 c1) a0.Young, slC rDCell (.slice A2 n2 c2) a0.Old, boxC B4 24 [.slice A1 n1 c1, .slice A2 n2 c2], ownC rDCell 42 (.slice A17 n17 c17) p17, ownC rDCell 42 (.slice A34 n34 c34) p34, boxC B15 24 [.slice A17 n17 c17, .slice A34 n34 c34]]) N _ _ ⟨0, y12.Old, A14, n14, c14, h, rfl, rfl⟩ (sub_cons rfl (sub_cons rfl (sub_cons rfl (sub_cons rfl (sub_cons rfl (sub_cons rfl (sub_cons rfl (sub_cons rfl sub_nil)))))))) (cv_sel [0, 1, 2, 3, 4, 5, 6, 7, 8] 9 rfl rfl) ?_
        rintro (_ | m32) _ _ ⟨p33, p34, A34, n34, c34, h, rfl, rfl⟩
        · exact none_some h
        rw [pantomimelaw19_ReachNothing_l32_s] at h
        refine run ?_
        refine G_seq ?_
        refine G_cond rfl (fun g35 => ?_) (fun g35 => ?_)
        · replace h := cond_t g35 h
          refine run ?_
          refine G_joinF (fun s L => ∃ (p37 : (List DCell)) (A37 : Option Addr) (n37 c37 : Nat), pantomimelaw19_ReachNothing_j36 N (pantomimelaw19_ReachNothing_l32 N y12 a1 y8 y10 a0 p17 m32) y12 p33 a1 y8 y10 a0 p17 p37 = some r ∧ s = [(1, .slice A3 n3 c3), (2, .pointer (some ⟨B4, 0, none⟩)), (4, .bool false), (5, .slice A9 n9 c9), (6, .slice A11 n11 c11), (7, .pointer (some ⟨B15, 0, none⟩)), (43, .int .i64 (y12.Old.length : Int)), (44, .int .i64 p33)] ∧ L = [slC rDValue (.slice A3 n3 c3) a1, ownC (rInt .i64) 3 (.slice A9 n9 c9) y8, ownC (rInt .i64) 3 (.slice A11 n11 c11) y10, slC rDCell (.slice A1 n1 c1) a0.Young, slC rDCell (.slice A2 n2 c2) a0.Old, boxC B4 24 [.slice A1 n1 c1, .slice A2 n2 c2], ownC rDCell 42 (.slice A17 n17 c17) p17, ownC rDCell 42 (.slice A37 n37 c37) p37, boxC B15 24 [.slice A17 n17 c17, .slice A37 n37 c37]]) ?_ ?_
          · refine run ?_
            obtain ⟨q38, h⟩ := req_elim h
            refine G_ev (ev_mul rfl rfl q38.1 q38.2) rfl rfl rfl ?_
            obtain ⟨q39, h⟩ := req_elim h
            refine G_ev (ev_add rfl rfl q39.1 q39.2) rfl rfl rfl ?_
            obtain ⟨y40, hy40, h⟩ := bind_elim h
            refine G_opd (op_callR (pantomimeref19_In_ok hy40) call18 rfl (mem_cons (lent_own (i := 1) rfl) mem_nil) pantomimeref19_In_free) rfl rfl rfl ?_
            rintro _ _ ⟨_, ⟨rfl, rfl⟩, rfl⟩
            refine run ?_
            refine G_cond rfl (fun g41 => ?_) (fun g41 => ?_)
            · replace h := cond_t g41 h
              refine run ?_
              refine G_rd (rd_box1 8 rfl rfl one22 rfl) rfl rfl rfl ?_
              refine run ?_
              refine G_ev (ev_build rfl (bld_42_)) rfl rfl rfl ?_
              obtain ⟨x42, hx42, h⟩ := bind_elim h
              obtain ⟨lx42, ux42, hx42⟩ := getE_elim hx42
              refine G_rd (rd_idx 7 rfl els_own rfl rfl Try.underlying22 size42 lx42 ux42) rfl rfl rfl ?_
              refine G_opn (op_storeE (us := [.int .i64 0, .int .i64 0, .int .i64 0, .int .i64 0, .slice none 0 0, .slice none 0 0]) (z := (⟨0, 0, 0, 0, [], []⟩ : DCell)) 7 rfl rfl rfl rfl size42 rfl (toNat_lt lx42 ux42) rfl (fun S w vs xk hk hr ho => by obtain rfl := Option.some.inj (hk.symm.trans hx42); obtain ⟨_, _, _, _, _, _, rfl, s4, s5⟩ := hr; exact ⟨_, _, _, _, _, _, rfl, slR_nil _ _ _, slR_nil _ _ _⟩)) rfl rfl ?_
              rintro _ _ rfl
              refine G_norm ([slC rDValue (.slice A3 n3 c3) a1, ownC (rInt .i64) 3 (.slice A9 n9 c9) y8, ownC (rInt .i64) 3 (.slice A11 n11 c11) y10, slC rDCell (.slice A1 n1 c1) a0.Young, slC rDCell (.slice A2 n2 c2) a0.Old, boxC B4 24 [.slice A1 n1 c1, .slice A2 n2 c2], ownC rDCell 42 (.slice A17 n17 c17) p17, ownC rDCell 42 (.slice A34 n34 c34) (List.set p34 p33.toNat (⟨0, 0, 0, 0, [], []⟩ : DCell)), boxC B15 24 [.slice A17 n17 c17, .slice A34 n34 c34]]) rfl ?_
              refine run ?_
              exact ⟨_, _, ⟨List.set p34 p33.toNat (⟨0, 0, 0, 0, [], []⟩ : DCell), A34, n34, c34, h, rfl, rfl⟩, sub_cons rfl (sub_cons rfl (sub_cons rfl (sub_cons rfl (sub_cons rfl (sub_cons rfl (sub_cons rfl (sub_cons rfl sub_nil))))))), cv_sel [0, 1, 2, 3, 4, 5, 6, 7, 8] 9 rfl rfl⟩
            · replace h := cond_f g41 h
              refine run ?_
              exact ⟨_, _, ⟨p34, A34, n34, c34, h, rfl, rfl⟩, sub_cons rfl (sub_cons rfl (sub_cons rfl (sub_cons rfl (sub_cons rfl (sub_cons rfl (sub_cons rfl (sub_cons rfl sub_nil))))))), cv_sel [0, 1, 2, 3, 4, 5, 6, 7, 8] 9 rfl rfl⟩
          · rintro _ _ ⟨p37, A37, n37, c37, h, rfl, rfl⟩
            refine G_region ?_
            obtain ⟨q43, h⟩ := req_elim h
            refine G_ev (ev_add rfl rfl q43.1 q43.2) rfl rfl rfl ?_
            refine run ?_
            exact ⟨m32, _, _, Nat.lt_succ_self _, ⟨p33 + 1, p37, A37, n37, c37, h, rfl, rfl⟩, sub_cons rfl (sub_cons rfl (sub_cons rfl (sub_cons rfl (sub_cons rfl (sub_cons rfl (sub_cons rfl (sub_cons rfl sub_nil))))))), cv_sel [0, 1, 2, 3, 4, 5, 6, 7, 8] 9 rfl rfl⟩
        · replace h := cond_f g35 h
          refine run ?_
          exact ⟨_, _, ⟨p34, A34, n34, c34, h, rfl, rfl⟩, sub_cons rfl (sub_cons rfl (sub_cons rfl (sub_cons rfl (sub_cons rfl (sub_cons rfl sub_nil))))), cv_sel [0, 1, 2, 3, 4, 5, 6, 7, 8] 9 rfl rfl⟩
      · rintro _ _ ⟨p31, A31, n31, c31, h, rfl, rfl⟩
        refine run ?_
        refine G_rd (rd_boxS (us := [.slice A17 n17 c17, .slice A31 n31 c31]) 8 rfl rfl agg24 rfl) rfl rfl rfl ?_
        refine run ?_
        obtain ⟨y44, hy44, h⟩ := bind_elim h
        refine G_opd (op_callR (reach_Live_ok hy44) call16 rfl (mem_cons (lent_own (i := 6) rfl) (mem_cons (lent_own (i := 7) rfl) (mem_cons (lent_ro (i := 0) rfl rfl) mem_nil))) reach_Live_free) rfl rfl rfl ?_
        rintro _ _ ⟨_, ⟨A45, n45, c45, rfl, rfl⟩, rfl⟩
        refine run ?_
        obtain ⟨y46, hy46, h⟩ := bind_elim h
        refine G_opd (op_callR (pantomimeref19_Same_ok hy46) call25 rfl (mem_cons (lent_own (i := 0) rfl) (mem_cons (lent_own (i := 2) rfl) mem_nil)) pantomimeref19_Same_free) rfl rfl rfl ?_
        rintro _ _ ⟨_, ⟨rfl, rfl⟩, rfl⟩
        refine run ?_
        obtain ⟨b47, hb47, h⟩ := bind_elim h
        refine G_segb 6 70 b47 ?_ ?_
        · clear h
          refine G_case 64 rfl (fun g47 => ?_) (fun g47 => ?_)
          · have h := cond_t g47 hb47
            refine G_rd (rd_boxS (us := [.slice A17 n17 c17, .slice A31 n31 c31]) 9 rfl rfl agg24 rfl) rfl (g_tt g47 rfl) rfl ?_
            refine run ?_
            obtain ⟨y48, hy48, h⟩ := bind_elim h
            refine G_opd (op_callR (reach_Order_ok hy48) call23 rfl (mem_cons (lent_own (i := 7) rfl) (mem_cons (lent_own (i := 8) rfl) (mem_cons (lent_ro (i := 1) rfl rfl) mem_nil))) reach_Order_free) rfl (g_tt g47 rfl) rfl ?_
            rintro _ _ ⟨_, ⟨A49, n49, c49, rfl, rfl⟩, rfl⟩
            refine run ?_
            obtain ⟨y50, hy50, h⟩ := bind_elim h
            refine G_opd (op_callR (pantomimeref19_Same_ok hy50) call25 rfl (mem_cons (lent_own (i := 0) rfl) (mem_cons (lent_own (i := 4) rfl) mem_nil)) pantomimeref19_Same_free) rfl (g_tt g47 rfl) rfl ?_
            rintro _ _ ⟨_, ⟨rfl, rfl⟩, rfl⟩
            refine run ?_
            obtain rfl := Option.some.inj h
            exact G_joined (sub_cons rfl (sub_skip (sub_skip (sub_skip (sub_skip (sub_skip (sub_skip sub_refl rfl) rfl) rfl) rfl) rfl) rfl)) (cv_sel [1, 2, 3, 4, 5, 6, 7, 8, 9, 10] 11 rfl rfl)
          · have h := cond_f g47 hb47
            refine run ?_
            obtain rfl := Option.some.inj h
            exact G_joined (sub_cons rfl (sub_skip (sub_skip (sub_skip (sub_skip (sub_skip (sub_skip sub_refl rfl) rfl) rfl) rfl) rfl) rfl)) (cv_sel [0, 1, 2, 3, 4, 5, 6, 7, 8, 9] 10 rfl rfl)
        refine run ?_
        obtain ⟨b51, hb51, h⟩ := bind_elim h
        refine G_segb 6 77 b51 ?_ ?_
        · clear h
          refine G_case 71 rfl (fun g51 => ?_) (fun g51 => ?_)
          · have h := cond_t g51 hb51
            refine G_rd (rd_boxS (us := [.slice A1 n1 c1, .slice A2 n2 c2]) 6 rfl rfl agg24 rfl) rfl (g_tt g51 rfl) rfl ?_
            refine run ?_
            refine G_rd (rd_boxS (us := [.slice A17 n17 c17, .slice A31 n31 c31]) 9 rfl rfl agg24 rfl) rfl (g_tt g51 rfl) rfl ?_
            refine run ?_
            obtain ⟨y52, hy52, h⟩ := bind_elim h
            refine G_opd (op_callR (reach_Alike_ok hy52) call26 rfl (mem_cons (lent_ro (i := 4) rfl rfl) (mem_cons (lent_ro (i := 5) rfl rfl) (mem_cons (lent_ro (i := 1) rfl rfl) (mem_cons (lent_own (i := 7) rfl) (mem_cons (lent_own (i := 8) rfl) (mem_cons (lent_ro (i := 1) rfl rfl) mem_nil)))))) reach_Alike_free) rfl (g_tt g51 rfl) rfl ?_
            rintro _ _ ⟨_, ⟨rfl, rfl⟩, rfl⟩
            refine run ?_
            obtain rfl := Option.some.inj h
            exact G_joined (sub_cons rfl (sub_skip (sub_skip (sub_skip (sub_skip (sub_skip (sub_skip sub_refl rfl) rfl) rfl) rfl) rfl) rfl)) (cv_sel [0, 1, 2, 3, 4, 5, 6, 7, 8, 9] 10 rfl rfl)
          · have h := cond_f g51 hb51
            refine run ?_
            obtain rfl := Option.some.inj h
            exact G_joined (sub_cons rfl (sub_skip (sub_skip (sub_skip (sub_skip (sub_skip (sub_skip sub_refl rfl) rfl) rfl) rfl) rfl) rfl)) (cv_sel [0, 1, 2, 3, 4, 5, 6, 7, 8, 9] 10 rfl rfl)
        refine run ?_
        obtain ⟨b53, hb53, h⟩ := bind_elim h
        refine G_segb 2 80 b53 ?_ ?_
        · clear h
          refine G_case 78 rfl (fun g53 => ?_) (fun g53 => ?_)
          · have h := cond_t g53 hb53
            obtain ⟨y54, hy54, h⟩ := bind_elim h
            refine G_opd (op_callR (pantomimelaw19_goes_ok hy54) call15 rfl (mem_nil) pantomimelaw19_goes_free) rfl (g_tt g53 rfl) rfl ?_
            rintro _ _ ⟨_, ⟨rfl, rfl⟩, rfl⟩
            refine run ?_
            obtain rfl := Option.some.inj h
            exact G_joined (sub_cons rfl (sub_skip (sub_skip sub_refl rfl) rfl)) (cv_sel [0, 1, 2, 3, 4, 5, 6, 7, 8, 9] 10 rfl rfl)
          · have h := cond_f g53 hb53
            refine run ?_
            obtain rfl := Option.some.inj h
            exact G_joined (sub_cons rfl (sub_skip (sub_skip sub_refl rfl) rfl)) (cv_sel [0, 1, 2, 3, 4, 5, 6, 7, 8, 9] 10 rfl rfl)
        refine run ?_
        obtain rfl := Option.some.inj h
        exact endG1 rfl rfl (cv_sel [] 10 rfl rfl) ⟨rfl, rfl⟩
def pantomimeref15_May_O (N : Nat) (a0 : DValue) : Option Bool :=
  (bif decide (a0.Kind < 0) then (some true) else (some (decide (9 < a0.Kind)))).bind fun b2 => bif b2 then (some false) else (bif decide (a0.Kind = 5) then ((bif decide (a0.N = 0) then (some (decide ((a0.S.size : Int) ≤ 65536))) else (some false)).bind fun b5 => some b5) else (bif !(a0.S.toList == (⟨#[]⟩ : ByteArray).toList) then (some false) else (bif decide (a0.Kind = 2) then ((bif decide (a0.N = 0) then (some true) else (some (decide (a0.N = 1)))).bind fun b8 => some b8) else (bif decide (a0.Kind = 3) then ((bif decide ((-9007199254740992) ≤ a0.N) then (some (decide (a0.N ≤ 9007199254740992))) else (some false)).bind fun b10 => some b10) else ((bif decide (a0.Kind = 6) then (some true) else (some (decide (a0.Kind = 7)))).bind fun b11 => (bif b11 then (some true) else (some (decide (a0.Kind = 9)))).bind fun b12 => bif b12 then (some (decide (1 ≤ a0.N))) else (some (decide (a0.N = 0))))))))
end Go.Proofs.Ytmbaennilhdieaa
