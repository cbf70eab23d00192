/- Merged texts: part 6. No conditions of their own. -/
import Derived.Test.YtmbaennilhdieaaGreatG5
import Derived.Test.YtmbaennilhdieaaGreatG1
/- Pure functions and contracts of Go functions (printed by all3.py). -/
namespace Go.Proofs.YtmbaennilhdieaaGreat
open Go.RowKit Asn
set_option maxRecDepth 20000

def weak_kept_b12 (N : Nat) (ff : DValue → Option Bool) (y6 : (DCell)) (x12 : DValue × DValue) : ((List DValue)) → Option (Option Exit × (List DValue))
  | p13 => (ff x12.1).bind fun y18 => bif y18 then (req (fitsL (p13.length + ([x12.1, x12.2] : List DValue).length)) (some (none, p13 ++ ([x12.1, x12.2] : List DValue)))) else (some (none, p13))
def weak_kept_O (N : Nat) (a0 : DCell) (ff : DValue → Option Bool) : Option DCell :=
  (cell_Copy_O N a0).bind fun y6 => (weak_entries_O N a0).bind fun y10 => (weak_entries_c1_O N a0 (liftR (fun x st => weak_kept_b12 N ff y6 x st)) (none, [])).bind fun y14 => caseX y14.1 (some (⟨y6.Kind, y6.Shape, y6.Flags, y6.Age, y6.Slots, y14.2⟩ : DCell)) none (fun _ => none)
theorem weak_kept_ok {N : Nat} {a0 : DCell} {ff : DValue → Option Bool} {r : DCell} (h : weak_kept_O N a0 ff = some r) {A1 : Option Addr} {n1 c1 : Nat} {A2 : Option Addr} {n2 c2 : Nat} {vf : Value} {G : List Chunk} (hf : FnOk Tryz.prog vf G (fun x => [.agg #[.int .i64 x.Kind, .int .i64 x.N, .string x.S]]) (fun r => .bool r) ff) : Okc Tryz.prog 133 [.agg #[.int .i64 a0.Kind, .int .i64 a0.Shape, .int .i64 a0.Flags, .int .i64 a0.Age, .slice A1 n1 c1, .slice A2 n2 c2], vf] (slC rDValue (.slice A1 n1 c1) a0.Slots :: slC rDValue (.slice A2 n2 c2) a0.More :: G) (fun (u : Value) (post : List Chunk) => ∃ A0 n0 c0 A1 n1 c1, u = .agg #[.int .i64 r.Kind, .int .i64 r.Shape, .int .i64 r.Flags, .int .i64 r.Age, .slice A0 n0 c0, .slice A1 n1 c1] ∧ post = [ownC rDValue 38 (.slice A0 n0 c0) r.Slots, ownC rDValue 38 (.slice A1 n1 c1) r.More]) := by
  refine ok_E Tryz.func133 rfl rfl ?_
  simp only [envOf]
  refine run ?_
  refine G_opd (op_box rfl rfl) rfl rfl rfl ?_
  rintro _ _ ⟨B3, rfl, rfl⟩
  refine G_opd (op_box rfl (fn_cells hf)) rfl rfl rfl ?_
  rintro _ _ ⟨B4, rfl, rfl⟩
  refine G_opd (op_alloc zero32 rfl) rfl rfl rfl ?_
  rintro _ _ ⟨B5, rfl, rfl⟩
  refine run ?_
  refine G_rd (rd_boxS (us := [.int .i64 a0.Kind, .int .i64 a0.Shape, .int .i64 a0.Flags, .int .i64 a0.Age, .slice A1 n1 c1, .slice A2 n2 c2]) 2 rfl rfl agg32 rfl) rfl rfl rfl ?_
  obtain ⟨y6, hy6, h⟩ := bind_elim h
  refine G_opd (op_call (cell_Copy_ok hy6) call50 rfl (cv_take [3, 4] [] [0, 1, 2, 3, 4] 5 rfl)) rfl rfl rfl ?_
  rintro _ _ ⟨_, ⟨A7, n7, c7, A8, n8, c8, rfl, rfl⟩, rfl⟩
  refine G_norm (ownC rDValue 38 (.slice A7 n7 c7) y6.Slots :: ownC rDValue 38 (.slice A8 n8 c8) y6.More :: boxC B5 32 [.int .i64 0, .int .i64 0, .int .i64 0, .int .i64 0, .slice none 0 0, .slice none 0 0] :: boxC B4 123 [vf] :: boxC B3 32 [.int .i64 a0.Kind, .int .i64 a0.Shape, .int .i64 a0.Flags, .int .i64 a0.Age, .slice A1 n1 c1, .slice A2 n2 c2] :: slC rDValue (.slice A1 n1 c1) a0.Slots :: slC rDValue (.slice A2 n2 c2) a0.More :: G) rfl ?_
  refine G_opd (op_alloc zero32 rfl) rfl rfl rfl ?_
  rintro _ _ ⟨B9, rfl, rfl⟩
  refine G_opn (op_store (us := [.int .i64 y6.Kind, .int .i64 y6.Shape, .int .i64 y6.Flags, .int .i64 y6.Age, .slice A7 n7 c7, .slice A8 n8 c8]) (cs' := [.int .i64 y6.Kind, .int .i64 y6.Shape, .int .i64 y6.Flags, .int .i64 y6.Age, .slice A7 n7 c7, .slice A8 n8 c8]) 0 rfl rfl rfl rfl size32 rfl rfl rfl) rfl rfl ?_
  rintro _ _ rfl
  refine G_norm (boxC B9 32 [.int .i64 y6.Kind, .int .i64 y6.Shape, .int .i64 y6.Flags, .int .i64 y6.Age, .slice A7 n7 c7, .slice A8 n8 c8] :: ownC rDValue 38 (.slice A7 n7 c7) y6.Slots :: ownC rDValue 38 (.slice A8 n8 c8) y6.More :: boxC B5 32 [.int .i64 0, .int .i64 0, .int .i64 0, .int .i64 0, .slice none 0 0, .slice none 0 0] :: boxC B4 123 [vf] :: boxC B3 32 [.int .i64 a0.Kind, .int .i64 a0.Shape, .int .i64 a0.Flags, .int .i64 a0.Age, .slice A1 n1 c1, .slice A2 n2 c2] :: slC rDValue (.slice A1 n1 c1) a0.Slots :: slC rDValue (.slice A2 n2 c2) a0.More :: G) rfl ?_
  refine run ?_
  refine G_opn (op_store (us := [.slice none 0 0]) (cs' := [.int .i64 y6.Kind, .int .i64 y6.Shape, .int .i64 y6.Flags, .int .i64 y6.Age, .slice A7 n7 c7, .slice none 0 0]) 0 rfl rfl rfl rfl size25 rfl rfl rfl) rfl rfl ?_
  rintro _ _ rfl
  refine G_norm (boxC B9 32 [.int .i64 y6.Kind, .int .i64 y6.Shape, .int .i64 y6.Flags, .int .i64 y6.Age, .slice A7 n7 c7, .slice none 0 0] :: ownC rDValue 38 (.slice A7 n7 c7) y6.Slots :: ownC rDValue 38 (.slice A8 n8 c8) y6.More :: boxC B5 32 [.int .i64 0, .int .i64 0, .int .i64 0, .int .i64 0, .slice none 0 0, .slice none 0 0] :: boxC B4 123 [vf] :: boxC B3 32 [.int .i64 a0.Kind, .int .i64 a0.Shape, .int .i64 a0.Flags, .int .i64 a0.Age, .slice A1 n1 c1, .slice A2 n2 c2] :: slC rDValue (.slice A1 n1 c1) a0.Slots :: slC rDValue (.slice A2 n2 c2) a0.More :: G) rfl ?_
  refine run ?_
  refine G_seq ?_
  refine run ?_
  refine G_rd (rd_boxS (us := [.int .i64 a0.Kind, .int .i64 a0.Shape, .int .i64 a0.Flags, .int .i64 a0.Age, .slice A1 n1 c1, .slice A2 n2 c2]) 5 rfl rfl agg32 rfl) rfl rfl rfl ?_
  obtain ⟨y10, hy10, h⟩ := bind_elim h
  refine G_opd (op_callR (weak_entries_ok hy10) call179 rfl (mem_cons (lent_ro (i := 6) rfl rfl) (mem_cons (lent_ro (i := 7) rfl rfl) mem_nil)) weak_entries_free) rfl rfl rfl ?_
  rintro _ _ ⟨_, ⟨B11, rfl, rfl⟩, rfl⟩
  refine G_nil ?_
  refine nx_n ?_
  refine G_sub ?_ sub_refl (cv_frzbox 0 rfl)
  refine Wq_norm (rboxC B11 32 [.int .i64 a0.Kind, .int .i64 a0.Shape, .int .i64 a0.Flags, .int .i64 a0.Age, .slice A1 n1 c1, .slice A2 n2 c2] :: boxC B9 32 [.int .i64 y6.Kind, .int .i64 y6.Shape, .int .i64 y6.Flags, .int .i64 y6.Age, .slice A7 n7 c7, .slice none 0 0] :: ownC rDValue 38 (.slice A7 n7 c7) y6.Slots :: ownC rDValue 38 (.slice A8 n8 c8) y6.More :: boxC B5 32 [.int .i64 0, .int .i64 0, .int .i64 0, .int .i64 0, .slice none 0 0, .slice none 0 0] :: boxC B4 123 [vf] :: boxC B3 32 [.int .i64 a0.Kind, .int .i64 a0.Shape, .int .i64 a0.Flags, .int .i64 a0.Age, .slice A1 n1 c1, .slice A2 n2 c2] :: slC rDValue (.slice A1 n1 c1) a0.Slots :: slC rDValue (.slice A2 n2 c2) a0.More :: G) rfl ?_
  obtain ⟨y14, hy14, h⟩ := bind_elim h
  refine G_rangeX (en := (fun x => [.agg #[.int .i64 x.1.Kind, .int .i64 x.1.N, .string x.1.S], .agg #[.int .i64 x.2.Kind, .int .i64 x.2.N, .string x.2.S]])) (fun x st => weak_kept_b12 N ff y6 x st) (fun (st : (List DValue)) (mz : ((Option Addr × Nat × Nat))) => [boxC B4 123 [vf], boxC B5 32 [.int .i64 0, .int .i64 0, .int .i64 0, .int .i64 0, .slice none 0 0, .slice none 0 0], ownC rDValue 38 (.slice A7 n7 c7) y6.Slots, ownC rDValue 38 (.slice mz.1 mz.2.1 mz.2.2) st, boxC B9 32 [.int .i64 y6.Kind, .int .i64 y6.Shape, .int .i64 y6.Flags, .int .i64 y6.Age, .slice A7 n7 c7, .slice mz.1 mz.2.1 mz.2.2]] ++ G) [rboxC B11 32 [.int .i64 a0.Kind, .int .i64 a0.Shape, .int .i64 a0.Flags, .int .i64 a0.Age, .slice A1 n1 c1, .slice A2 n2 c2], slC rDValue (.slice A1 n1 c1) a0.Slots, slC rDValue (.slice A2 n2 c2) a0.More] ([]) ((none, 0, 0)) rfl rfl call198 rfl (fun _ => rfl) (fun l G hY => (weak_entries_c1_ok hy14 hY).mono fun _ _ hh => hh.2) ((cv_nil rDValue 38 _).trans (cv_take [1, 8, 9] [] [6, 5, 3, 0, 2] 10 rfl)) h ?_ ?_ ?_ ?_
  · rintro l x12 p13 je sr12 ⟨A13, n13, c13⟩ h
    replace h : weak_kept_b12 N ff y6 x12 p13 = some (je, sr12) := h
    simp only [envR, List.zip_cons_cons, List.zip_nil_left, List.zip_nil_right, List.reverse_cons, List.reverse_nil, List.nil_append, List.cons_append]
    refine run ?_
    refine G_opd (op_alloc zero38 rfl) rfl rfl rfl ?_
    rintro _ _ ⟨B16, rfl, rfl⟩
    refine G_opn (op_store (us := [.int .i64 x12.1.Kind, .int .i64 x12.1.N, .string x12.1.S]) (cs' := [.int .i64 x12.1.Kind, .int .i64 x12.1.N, .string x12.1.S]) 0 rfl rfl rfl rfl size38 rfl rfl rfl) rfl rfl ?_
    rintro _ _ rfl
    refine G_norm (boxC B16 38 [.int .i64 x12.1.Kind, .int .i64 x12.1.N, .string x12.1.S] :: boxC B4 123 [vf] :: boxC B5 32 [.int .i64 0, .int .i64 0, .int .i64 0, .int .i64 0, .slice none 0 0, .slice none 0 0] :: ownC rDValue 38 (.slice A7 n7 c7) y6.Slots :: ownC rDValue 38 (.slice A13 n13 c13) p13 :: boxC B9 32 [.int .i64 y6.Kind, .int .i64 y6.Shape, .int .i64 y6.Flags, .int .i64 y6.Age, .slice A7 n7 c7, .slice A13 n13 c13] :: G) rfl ?_
    refine run ?_
    refine G_opd (op_alloc zero38 rfl) rfl rfl rfl ?_
    rintro _ _ ⟨B17, rfl, rfl⟩
    refine G_opn (op_store (us := [.int .i64 x12.2.Kind, .int .i64 x12.2.N, .string x12.2.S]) (cs' := [.int .i64 x12.2.Kind, .int .i64 x12.2.N, .string x12.2.S]) 0 rfl rfl rfl rfl size38 rfl rfl rfl) rfl rfl ?_
    rintro _ _ rfl
    refine G_norm (boxC B17 38 [.int .i64 x12.2.Kind, .int .i64 x12.2.N, .string x12.2.S] :: boxC B16 38 [.int .i64 x12.1.Kind, .int .i64 x12.1.N, .string x12.1.S] :: boxC B4 123 [vf] :: boxC B5 32 [.int .i64 0, .int .i64 0, .int .i64 0, .int .i64 0, .slice none 0 0, .slice none 0 0] :: ownC rDValue 38 (.slice A7 n7 c7) y6.Slots :: ownC rDValue 38 (.slice A13 n13 c13) p13 :: boxC B9 32 [.int .i64 y6.Kind, .int .i64 y6.Shape, .int .i64 y6.Flags, .int .i64 y6.Age, .slice A7 n7 c7, .slice A13 n13 c13] :: G) rfl ?_
    refine run ?_
    refine G_rd (rd_boxS (us := [.int .i64 x12.1.Kind, .int .i64 x12.1.N, .string x12.1.S]) 1 rfl rfl agg38 rfl) rfl rfl rfl ?_
    obtain ⟨y18, hy18, h⟩ := bind_elim h
    refine G_opd (op_callf (a := x12.1) [boxC B17 38 [.int .i64 x12.2.Kind, .int .i64 x12.2.N, .string x12.2.S], boxC B16 38 [.int .i64 x12.1.Kind, .int .i64 x12.1.N, .string x12.1.S], boxC B4 123 [vf], boxC B5 32 [.int .i64 0, .int .i64 0, .int .i64 0, .int .i64 0, .slice none 0 0, .slice none 0 0], ownC rDValue 38 (.slice A7 n7 c7) y6.Slots, ownC rDValue 38 (.slice A13 n13 c13) p13, boxC B9 32 [.int .i64 y6.Kind, .int .i64 y6.Shape, .int .i64 y6.Flags, .int .i64 y6.Age, .slice A7 n7 c7, .slice A13 n13 c13]] hf hy18 rfl rfl) rfl rfl rfl ?_
    rintro _ _ ⟨rfl, rfl⟩
    refine G_norm (boxC B17 38 [.int .i64 x12.2.Kind, .int .i64 x12.2.N, .string x12.2.S] :: boxC B16 38 [.int .i64 x12.1.Kind, .int .i64 x12.1.N, .string x12.1.S] :: boxC B4 123 [vf] :: boxC B5 32 [.int .i64 0, .int .i64 0, .int .i64 0, .int .i64 0, .slice none 0 0, .slice none 0 0] :: ownC rDValue 38 (.slice A7 n7 c7) y6.Slots :: ownC rDValue 38 (.slice A13 n13 c13) p13 :: boxC B9 32 [.int .i64 y6.Kind, .int .i64 y6.Shape, .int .i64 y6.Flags, .int .i64 y6.Age, .slice A7 n7 c7, .slice A13 n13 c13] :: G) rfl ?_
    refine run ?_
    refine G_cond rfl (fun g19 => ?_) (fun g19 => ?_)
    · replace h := cond_t g19 h
      refine run ?_
      refine G_rd (rd_boxS (us := [.int .i64 x12.1.Kind, .int .i64 x12.1.N, .string x12.1.S]) 1 rfl rfl agg38 rfl) rfl rfl rfl ?_
      refine G_rd (rd_boxS (us := [.int .i64 x12.2.Kind, .int .i64 x12.2.N, .string x12.2.S]) 0 rfl rfl agg38 rfl) rfl rfl rfl ?_
      refine G_opd (op_bslice (R := rDValue) (vss := [[.int .i64 x12.1.Kind, .int .i64 x12.1.N, .string x12.1.S], [.int .i64 x12.2.Kind, .int .i64 x12.2.N, .string x12.2.S]]) (xs := [x12.1, x12.2]) rfl (bsl_25_2 _ _ _ _ _ _) rfl rfl (fun _ _ hr => .cons rfl (.cons rfl All2.nil))) rfl rfl rfl ?_
      rintro _ _ ⟨A20, n20, c20, rfl, rfl⟩
      obtain ⟨q21, h⟩ := req_elim h
      refine G_opd (op_append 6 0 rfl rfl els_own rfl rfl Tryz.underlying25 zb38 rfl rfl q21) rfl rfl rfl ?_
      rintro _ _ ⟨A22, n22, c22, rfl, rfl⟩
      refine G_norm (ownC rDValue 38 (.slice A20 n20 c20) ([x12.1, x12.2] : List DValue) :: boxC B17 38 [.int .i64 x12.2.Kind, .int .i64 x12.2.N, .string x12.2.S] :: boxC B16 38 [.int .i64 x12.1.Kind, .int .i64 x12.1.N, .string x12.1.S] :: boxC B4 123 [vf] :: boxC B5 32 [.int .i64 0, .int .i64 0, .int .i64 0, .int .i64 0, .slice none 0 0, .slice none 0 0] :: ownC rDValue 38 (.slice A7 n7 c7) y6.Slots :: ownC rDValue 38 (.slice A22 n22 c22) (p13 ++ ([x12.1, x12.2] : List DValue)) :: boxC B9 32 [.int .i64 y6.Kind, .int .i64 y6.Shape, .int .i64 y6.Flags, .int .i64 y6.Age, .slice A7 n7 c7, .slice A13 n13 c13] :: G) rfl ?_
      refine run ?_
      refine G_opn (op_store (us := [.slice A22 n22 c22]) (cs' := [.int .i64 y6.Kind, .int .i64 y6.Shape, .int .i64 y6.Flags, .int .i64 y6.Age, .slice A7 n7 c7, .slice A22 n22 c22]) 7 rfl rfl rfl rfl size25 rfl rfl rfl) rfl rfl ?_
      rintro _ _ rfl
      refine G_norm (ownC rDValue 38 (.slice A20 n20 c20) ([x12.1, x12.2] : List DValue) :: boxC B17 38 [.int .i64 x12.2.Kind, .int .i64 x12.2.N, .string x12.2.S] :: boxC B16 38 [.int .i64 x12.1.Kind, .int .i64 x12.1.N, .string x12.1.S] :: boxC B4 123 [vf] :: boxC B5 32 [.int .i64 0, .int .i64 0, .int .i64 0, .int .i64 0, .slice none 0 0, .slice none 0 0] :: ownC rDValue 38 (.slice A7 n7 c7) y6.Slots :: ownC rDValue 38 (.slice A22 n22 c22) (p13 ++ ([x12.1, x12.2] : List DValue)) :: boxC B9 32 [.int .i64 y6.Kind, .int .i64 y6.Shape, .int .i64 y6.Flags, .int .i64 y6.Age, .slice A7 n7 c7, .slice A22 n22 c22] :: G) rfl ?_
      refine run ?_
      obtain ⟨rfl, rfl⟩ := Prod.mk.inj (Option.some.inj h)
      exact RK_n ((cv_sel [3, 4, 5, 6, 7] 8 rfl rfl).trans (cv_pack1 (A22, n22, c22) rfl))
    · replace h := cond_f g19 h
      refine run ?_
      obtain ⟨rfl, rfl⟩ := Prod.mk.inj (Option.some.inj h)
      exact RK_n ((cv_sel [2, 3, 4, 5, 6] 7 rfl rfl).trans (cv_pack1 (A13, n13, c13) rfl))
  · rintro ⟨A13, n13, c13⟩ h
    refine K3_norm (boxC B4 123 [vf] :: boxC B5 32 [.int .i64 0, .int .i64 0, .int .i64 0, .int .i64 0, .slice none 0 0, .slice none 0 0] :: ownC rDValue 38 (.slice A7 n7 c7) y6.Slots :: ownC rDValue 38 (.slice A13 n13 c13) y14.2 :: boxC B9 32 [.int .i64 y6.Kind, .int .i64 y6.Shape, .int .i64 y6.Flags, .int .i64 y6.Age, .slice A7 n7 c7, .slice A13 n13 c13] :: G) rfl ?_
    refine run ?_
    refine G_rd (rd_boxS (us := [.int .i64 y6.Kind, .int .i64 y6.Shape, .int .i64 y6.Flags, .int .i64 y6.Age, .slice A7 n7 c7, .slice A13 n13 c13]) 4 rfl rfl agg32 rfl) rfl rfl rfl ?_
    refine G_opn (op_store (us := [.int .i64 y6.Kind, .int .i64 y6.Shape, .int .i64 y6.Flags, .int .i64 y6.Age, .slice A7 n7 c7, .slice A13 n13 c13]) (cs' := [.int .i64 y6.Kind, .int .i64 y6.Shape, .int .i64 y6.Flags, .int .i64 y6.Age, .slice A7 n7 c7, .slice A13 n13 c13]) 1 rfl rfl rfl rfl size32 rfl rfl rfl) rfl rfl ?_
    rintro _ _ rfl
    refine G_norm (boxC B4 123 [vf] :: boxC B5 32 [.int .i64 y6.Kind, .int .i64 y6.Shape, .int .i64 y6.Flags, .int .i64 y6.Age, .slice A7 n7 c7, .slice A13 n13 c13] :: ownC rDValue 38 (.slice A7 n7 c7) y6.Slots :: ownC rDValue 38 (.slice A13 n13 c13) y14.2 :: boxC B9 32 [.int .i64 y6.Kind, .int .i64 y6.Shape, .int .i64 y6.Flags, .int .i64 y6.Age, .slice A7 n7 c7, .slice A13 n13 c13] :: G) rfl ?_
    refine run ?_
    obtain rfl := Option.some.inj h
    exact endGl (rs := [.cell 4 32]) (vs := [.agg #[.int .i64 y6.Kind, .int .i64 y6.Shape, .int .i64 y6.Flags, .int .i64 y6.Age, .slice A7 n7 c7, .slice A13 n13 c13]]) rfl (.cons (rv_boxS 1 rfl rfl agg32) .nil) rfl (cv_selD [2, 3] 5 rfl rfl) ⟨_, _, _, _, _, _, rfl, rfl⟩
  · rintro ⟨A13, n13, c13⟩ h
    exact none_some h
  · rintro i ⟨A13, n13, c13⟩ h
    exact none_some h
def weak_Clean_O (N : Nat) (a0 : DCell) (a1 : (List Int)) : Option DCell :=
  (weak_is_O N a0).bind fun y7 => bif !y7 then (some (⟨0, 0, 0, 0, [], []⟩ : DCell)) else ((weak_kept_O N a0 (fun x => weak_Clean_c1_O N x a1)).bind fun y11 => some y11)
theorem weak_Clean_ok {N : Nat} {a0 : DCell} {a1 : (List Int)} {r : DCell} (h : weak_Clean_O N a0 a1 = some r) {A1 : Option Addr} {n1 c1 : Nat} {A2 : Option Addr} {n2 c2 : Nat} {A3 : Option Addr} {n3 c3 : Nat} : Okc Tryz.prog 80 [.agg #[.int .i64 a0.Kind, .int .i64 a0.Shape, .int .i64 a0.Flags, .int .i64 a0.Age, .slice A1 n1 c1, .slice A2 n2 c2], .slice A3 n3 c3] ([slC rDValue (.slice A1 n1 c1) a0.Slots, slC rDValue (.slice A2 n2 c2) a0.More, slC (rInt .i64) (.slice A3 n3 c3) a1]) (fun (u : Value) (post : List Chunk) => ∃ A0 n0 c0 A1 n1 c1, u = .agg #[.int .i64 r.Kind, .int .i64 r.Shape, .int .i64 r.Flags, .int .i64 r.Age, .slice A0 n0 c0, .slice A1 n1 c1] ∧ post = [ownC rDValue 38 (.slice A0 n0 c0) r.Slots, ownC rDValue 38 (.slice A1 n1 c1) r.More]) := by
  refine ok_E Tryz.func80 rfl rfl ?_
  simp only [envOf]
  refine run ?_
  refine G_opd (op_box rfl rfl) rfl rfl rfl ?_
  rintro _ _ ⟨B4, rfl, rfl⟩
  refine G_opd (op_box rfl rfl) rfl rfl rfl ?_
  rintro _ _ ⟨B5, rfl, rfl⟩
  refine G_opd (op_alloc zero32 rfl) rfl rfl rfl ?_
  rintro _ _ ⟨B6, rfl, rfl⟩
  refine run ?_
  refine G_seq ?_
  refine run ?_
  refine G_rd (rd_boxS (us := [.int .i64 a0.Kind, .int .i64 a0.Shape, .int .i64 a0.Flags, .int .i64 a0.Age, .slice A1 n1 c1, .slice A2 n2 c2]) 2 rfl rfl agg32 rfl) rfl rfl rfl ?_
  obtain ⟨y7, hy7, h⟩ := bind_elim h
  refine G_opd (op_callR (weak_is_ok hy7) call132 rfl (mem_cons (lent_ro (i := 3) rfl rfl) (mem_cons (lent_ro (i := 4) rfl rfl) mem_nil)) weak_is_free) rfl rfl rfl ?_
  rintro _ _ ⟨_, ⟨rfl, rfl⟩, rfl⟩
  refine run ?_
  refine G_cond rfl (fun g8 => ?_) (fun g8 => ?_)
  · replace h := cond_t g8 h
    refine run ?_
    refine G_ev (ev_build rfl (bld_32_)) rfl rfl rfl ?_
    refine G_opn (op_store (us := [.int .i64 0, .int .i64 0, .int .i64 0, .int .i64 0, .slice none 0 0, .slice none 0 0]) (cs' := [.int .i64 0, .int .i64 0, .int .i64 0, .int .i64 0, .slice none 0 0, .slice none 0 0]) 0 rfl rfl rfl rfl size32 rfl rfl rfl) rfl rfl ?_
    rintro _ _ rfl
    refine G_norm ([boxC B6 32 [.int .i64 0, .int .i64 0, .int .i64 0, .int .i64 0, .slice none 0 0, .slice none 0 0], boxC B5 35 [.slice A3 n3 c3], boxC B4 32 [.int .i64 a0.Kind, .int .i64 a0.Shape, .int .i64 a0.Flags, .int .i64 a0.Age, .slice A1 n1 c1, .slice A2 n2 c2], slC rDValue (.slice A1 n1 c1) a0.Slots, slC rDValue (.slice A2 n2 c2) a0.More, slC (rInt .i64) (.slice A3 n3 c3) a1]) rfl ?_
    refine run ?_
    obtain rfl := Option.some.inj h
    exact endGl (rs := [.cell 4 32]) (vs := [.agg #[.int .i64 0, .int .i64 0, .int .i64 0, .int .i64 0, .slice none 0 0, .slice none 0 0]]) rfl (.cons (rv_boxS 0 rfl rfl agg32) .nil) rfl ((cv_nil rDValue 38 _).trans ((cv_nil rDValue 38 _).trans (cv_sel [1, 0] 8 rfl rfl))) ⟨_, _, _, _, _, _, rfl, rfl⟩
  · replace h := cond_f g8 h
    refine run ?_
    refine G_rd (rd_boxS (us := [.int .i64 a0.Kind, .int .i64 a0.Shape, .int .i64 a0.Flags, .int .i64 a0.Age, .slice A1 n1 c1, .slice A2 n2 c2]) 2 rfl rfl agg32 rfl) rfl rfl rfl ?_
    refine G_ev (ev_makeFunc rfl) rfl rfl rfl ?_
    obtain ⟨y11, hy11, h⟩ := bind_elim h
    refine G_cv (cv_frzbox 1 rfl) ?_
    refine G_norm ([boxC B6 32 [.int .i64 0, .int .i64 0, .int .i64 0, .int .i64 0, .slice none 0 0, .slice none 0 0], rboxC B5 35 [.slice A3 n3 c3], boxC B4 32 [.int .i64 a0.Kind, .int .i64 a0.Shape, .int .i64 a0.Flags, .int .i64 a0.Age, .slice A1 n1 c1, .slice A2 n2 c2], slC rDValue (.slice A1 n1 c1) a0.Slots, slC rDValue (.slice A2 n2 c2) a0.More, slC (rInt .i64) (.slice A3 n3 c3) a1]) rfl ?_
    refine G_opd (op_call (weak_kept_ok hy11 ⟨mem_cons rfl (mem_cons rfl mem_nil), 134, #[], #[.pointer (some ⟨B5, 0, none⟩)], rfl, call134, fun _ _ hh => weak_Clean_c1_ok hh⟩) call133 rfl (cv_take [3, 4, 1, 5] [] [0, 1, 2, 3, 4, 5] 6 rfl)) rfl rfl rfl ?_
    rintro _ _ ⟨_, ⟨A12, n12, c12, A13, n13, c13, rfl, rfl⟩, rfl⟩
    refine G_norm ([ownC rDValue 38 (.slice A12 n12 c12) y11.Slots, ownC rDValue 38 (.slice A13 n13 c13) y11.More, boxC B6 32 [.int .i64 0, .int .i64 0, .int .i64 0, .int .i64 0, .slice none 0 0, .slice none 0 0], rboxC B5 35 [.slice A3 n3 c3], boxC B4 32 [.int .i64 a0.Kind, .int .i64 a0.Shape, .int .i64 a0.Flags, .int .i64 a0.Age, .slice A1 n1 c1, .slice A2 n2 c2], slC rDValue (.slice A1 n1 c1) a0.Slots, slC rDValue (.slice A2 n2 c2) a0.More, slC (rInt .i64) (.slice A3 n3 c3) a1]) rfl ?_
    refine G_opn (op_store (us := [.int .i64 y11.Kind, .int .i64 y11.Shape, .int .i64 y11.Flags, .int .i64 y11.Age, .slice A12 n12 c12, .slice A13 n13 c13]) (cs' := [.int .i64 y11.Kind, .int .i64 y11.Shape, .int .i64 y11.Flags, .int .i64 y11.Age, .slice A12 n12 c12, .slice A13 n13 c13]) 2 rfl rfl rfl rfl size32 rfl rfl rfl) rfl rfl ?_
    rintro _ _ rfl
    refine G_norm ([ownC rDValue 38 (.slice A12 n12 c12) y11.Slots, ownC rDValue 38 (.slice A13 n13 c13) y11.More, boxC B6 32 [.int .i64 y11.Kind, .int .i64 y11.Shape, .int .i64 y11.Flags, .int .i64 y11.Age, .slice A12 n12 c12, .slice A13 n13 c13], rboxC B5 35 [.slice A3 n3 c3], boxC B4 32 [.int .i64 a0.Kind, .int .i64 a0.Shape, .int .i64 a0.Flags, .int .i64 a0.Age, .slice A1 n1 c1, .slice A2 n2 c2], slC rDValue (.slice A1 n1 c1) a0.Slots, slC rDValue (.slice A2 n2 c2) a0.More, slC (rInt .i64) (.slice A3 n3 c3) a1]) rfl ?_
    refine run ?_
    obtain rfl := Option.some.inj h
    exact endGl (rs := [.cell 4 32]) (vs := [.agg #[.int .i64 y11.Kind, .int .i64 y11.Shape, .int .i64 y11.Flags, .int .i64 y11.Age, .slice A12 n12 c12, .slice A13 n13 c13]]) rfl (.cons (rv_boxS 2 rfl rfl agg32) .nil) rfl (cv_sel [0, 1] 8 rfl rfl) ⟨_, _, _, _, _, _, rfl, rfl⟩
def reach_cleaned_O (N : Nat) (a0 : DCell) (a1 : (List Int)) : Option DCell :=
  (bif decide (a0.Kind = 8) then ((cell_Right_O N a0).bind fun y7 => some y7) else (some false)).bind fun b6 => bif b6 then ((weak_Clean_O N a0 a1).bind fun y9 => some y9) else (some a0)
theorem reach_cleaned_ok {N : Nat} {a0 : DCell} {a1 : (List Int)} {r : DCell} (h : reach_cleaned_O N a0 a1 = some r) {A1 : Option Addr} {n1 c1 : Nat} {A2 : Option Addr} {n2 c2 : Nat} {A3 : Option Addr} {n3 c3 : Nat} : Okc Tryz.prog 72 [.agg #[.int .i64 a0.Kind, .int .i64 a0.Shape, .int .i64 a0.Flags, .int .i64 a0.Age, .slice A1 n1 c1, .slice A2 n2 c2], .slice A3 n3 c3] ([slC rDValue (.slice A1 n1 c1) a0.Slots, slC rDValue (.slice A2 n2 c2) a0.More, slC (rInt .i64) (.slice A3 n3 c3) a1]) (fun (u : Value) (post : List Chunk) => ∃ A0 n0 c0 A1 n1 c1, u = .agg #[.int .i64 r.Kind, .int .i64 r.Shape, .int .i64 r.Flags, .int .i64 r.Age, .slice A0 n0 c0, .slice A1 n1 c1] ∧ post = [slC rDValue (.slice A0 n0 c0) r.Slots, slC rDValue (.slice A1 n1 c1) r.More]) := by
  refine ok_E Tryz.func72 rfl rfl ?_
  simp only [envOf]
  refine run ?_
  refine G_opd (op_box rfl rfl) rfl rfl rfl ?_
  rintro _ _ ⟨B4, rfl, rfl⟩
  refine G_opd (op_alloc zero32 rfl) rfl rfl rfl ?_
  rintro _ _ ⟨B5, rfl, rfl⟩
  refine run ?_
  refine G_seq ?_
  refine run ?_
  obtain ⟨b6, hb6, h⟩ := bind_elim h
  refine G_segb 3 11 b6 ?_ ?_
  · clear h
    refine G_case 8 rfl (fun g6 => ?_) (fun g6 => ?_)
    · have h := cond_t g6 hb6
      refine G_rd (rd_boxS (us := [.int .i64 a0.Kind, .int .i64 a0.Shape, .int .i64 a0.Flags, .int .i64 a0.Age, .slice A1 n1 c1, .slice A2 n2 c2]) 1 rfl rfl agg32 rfl) rfl (g_tt g6 rfl) rfl ?_
      obtain ⟨y7, hy7, h⟩ := bind_elim h
      refine G_opd (op_callR (cell_Right_ok hy7) call53 rfl (mem_cons (lent_ro (i := 2) rfl rfl) (mem_cons (lent_ro (i := 3) rfl rfl) mem_nil)) cell_Right_free) rfl (g_tt g6 rfl) rfl ?_
      rintro _ _ ⟨_, ⟨rfl, rfl⟩, rfl⟩
      refine run ?_
      obtain rfl := Option.some.inj h
      exact G_joined (sub_cons rfl (sub_skip (sub_skip (sub_skip sub_refl rfl) rfl) rfl)) (cv_sel [0, 1, 2, 3, 4] 5 rfl rfl)
    · have h := cond_f g6 hb6
      refine run ?_
      obtain rfl := Option.some.inj h
      exact G_joined (sub_cons rfl (sub_skip (sub_skip (sub_skip sub_refl rfl) rfl) rfl)) (cv_sel [0, 1, 2, 3, 4] 5 rfl rfl)
  refine run ?_
  refine G_cond rfl (fun g8 => ?_) (fun g8 => ?_)
  · replace h := cond_t g8 h
    refine run ?_
    refine G_rd (rd_boxS (us := [.int .i64 a0.Kind, .int .i64 a0.Shape, .int .i64 a0.Flags, .int .i64 a0.Age, .slice A1 n1 c1, .slice A2 n2 c2]) 1 rfl rfl agg32 rfl) rfl rfl rfl ?_
    refine run ?_
    obtain ⟨y9, hy9, h⟩ := bind_elim h
    refine G_opd (op_call (weak_Clean_ok hy9) call80 rfl (cv_take [2, 3, 4] [] [0, 1, 2, 3, 4] 5 rfl)) rfl rfl rfl ?_
    rintro _ _ ⟨_, ⟨A10, n10, c10, A11, n11, c11, rfl, rfl⟩, rfl⟩
    refine G_norm ([ownC rDValue 38 (.slice A10 n10 c10) y9.Slots, ownC rDValue 38 (.slice A11 n11 c11) y9.More, boxC B5 32 [.int .i64 0, .int .i64 0, .int .i64 0, .int .i64 0, .slice none 0 0, .slice none 0 0], boxC B4 32 [.int .i64 a0.Kind, .int .i64 a0.Shape, .int .i64 a0.Flags, .int .i64 a0.Age, .slice A1 n1 c1, .slice A2 n2 c2], slC rDValue (.slice A1 n1 c1) a0.Slots, slC rDValue (.slice A2 n2 c2) a0.More, slC (rInt .i64) (.slice A3 n3 c3) a1]) rfl ?_
    refine G_opn (op_store (us := [.int .i64 y9.Kind, .int .i64 y9.Shape, .int .i64 y9.Flags, .int .i64 y9.Age, .slice A10 n10 c10, .slice A11 n11 c11]) (cs' := [.int .i64 y9.Kind, .int .i64 y9.Shape, .int .i64 y9.Flags, .int .i64 y9.Age, .slice A10 n10 c10, .slice A11 n11 c11]) 2 rfl rfl rfl rfl size32 rfl rfl rfl) rfl rfl ?_
    rintro _ _ rfl
    refine G_norm ([ownC rDValue 38 (.slice A10 n10 c10) y9.Slots, ownC rDValue 38 (.slice A11 n11 c11) y9.More, boxC B5 32 [.int .i64 y9.Kind, .int .i64 y9.Shape, .int .i64 y9.Flags, .int .i64 y9.Age, .slice A10 n10 c10, .slice A11 n11 c11], boxC B4 32 [.int .i64 a0.Kind, .int .i64 a0.Shape, .int .i64 a0.Flags, .int .i64 a0.Age, .slice A1 n1 c1, .slice A2 n2 c2], slC rDValue (.slice A1 n1 c1) a0.Slots, slC rDValue (.slice A2 n2 c2) a0.More, slC (rInt .i64) (.slice A3 n3 c3) a1]) rfl ?_
    refine run ?_
    obtain rfl := Option.some.inj h
    exact endGl (rs := [.cell 4 32]) (vs := [.agg #[.int .i64 y9.Kind, .int .i64 y9.Shape, .int .i64 y9.Flags, .int .i64 y9.Age, .slice A10 n10 c10, .slice A11 n11 c11]]) rfl (.cons (rv_boxS 2 rfl rfl agg32) .nil) rfl ((cv_frz 0 rfl).trans ((cv_frz 1 rfl).trans (cv_sel [0, 1] 7 rfl rfl))) ⟨_, _, _, _, _, _, rfl, rfl⟩
  · replace h := cond_f g8 h
    refine run ?_
    refine G_rd (rd_boxS (us := [.int .i64 a0.Kind, .int .i64 a0.Shape, .int .i64 a0.Flags, .int .i64 a0.Age, .slice A1 n1 c1, .slice A2 n2 c2]) 1 rfl rfl agg32 rfl) rfl rfl rfl ?_
    refine G_opn (op_store (us := [.int .i64 a0.Kind, .int .i64 a0.Shape, .int .i64 a0.Flags, .int .i64 a0.Age, .slice A1 n1 c1, .slice A2 n2 c2]) (cs' := [.int .i64 a0.Kind, .int .i64 a0.Shape, .int .i64 a0.Flags, .int .i64 a0.Age, .slice A1 n1 c1, .slice A2 n2 c2]) 0 rfl rfl rfl rfl size32 rfl rfl rfl) rfl rfl ?_
    rintro _ _ rfl
    refine G_norm ([boxC B5 32 [.int .i64 a0.Kind, .int .i64 a0.Shape, .int .i64 a0.Flags, .int .i64 a0.Age, .slice A1 n1 c1, .slice A2 n2 c2], boxC B4 32 [.int .i64 a0.Kind, .int .i64 a0.Shape, .int .i64 a0.Flags, .int .i64 a0.Age, .slice A1 n1 c1, .slice A2 n2 c2], slC rDValue (.slice A1 n1 c1) a0.Slots, slC rDValue (.slice A2 n2 c2) a0.More, slC (rInt .i64) (.slice A3 n3 c3) a1]) rfl ?_
    refine run ?_
    obtain rfl := Option.some.inj h
    exact endGl (rs := [.cell 4 32]) (vs := [.agg #[.int .i64 a0.Kind, .int .i64 a0.Shape, .int .i64 a0.Flags, .int .i64 a0.Age, .slice A1 n1 c1, .slice A2 n2 c2]]) rfl (.cons (rv_boxS 0 rfl rfl agg32) .nil) rfl (cv_sel [2, 3] 5 rfl rfl) ⟨_, _, _, _, _, _, rfl, rfl⟩
def reach_Alike_j45 (N : Nat) : Option Bool :=
  some true
def reach_Alike_l46 (N : Nat) (y24 : ((List Int))) (p31 : (List (Int × Int))) (p32 : (List (Int × Int))) : Nat → Int → (List DCell) → (List DCell) → (List DCell) → (List DCell) → (List Int) → (List Int) → Option Bool
  | 0, _, _, _, _, _, _, _ => none
  | m46 + 1, p47, p48, p49, p50, p51, p52, p53 => bif decide (p47 < (y24.length : Int)) then ((getE p52 p47).bind fun x55 => (reach_At_O N (⟨p48, p49⟩ : DMemory) x55).bind fun y56 => (reach_cleaned_O N y56 p52).bind fun y61 => (getE p53 p47).bind fun x66 => (reach_At_O N (⟨p50, p51⟩ : DMemory) x66).bind fun y67 => (reach_cleaned_O N y67 p53).bind fun y72 => (bif !decide (y61.Kind = y72.Kind) then (some true) else (some (!decide (y61.Shape = y72.Shape)))).bind fun b81 => (bif b81 then (some true) else (some (!decide (y61.Flags = y72.Flags)))).bind fun b82 => (bif b82 then (some true) else ((reach_twins_values_O N (⟨(⟨p48, p49⟩ : DMemory), (⟨p50, p51⟩ : DMemory), p52, p53, p31, p32⟩ : DTwins) y61.Slots y72.Slots).bind fun y84 => some (!y84))).bind fun b83 => (bif b83 then (some true) else ((reach_twins_values_O N (⟨(⟨p48, p49⟩ : DMemory), (⟨p50, p51⟩ : DMemory), p52, p53, p31, p32⟩ : DTwins) y61.More y72.More).bind fun y86 => some (!y86))).bind fun b85 => bif b85 then (some false) else (req (in64 (p47 + 1)) ((reach_Alike_l46 N y24 p31 p32 m46) (p47 + 1) p48 p49 p50 p51 p52 p53))) else (reach_Alike_j45 N)
theorem reach_Alike_l46_s {N m46 : Nat} {y24 : ((List Int))} {p31 : (List (Int × Int))} {p32 : (List (Int × Int))} {p47 : Int} {p48 : (List DCell)} {p49 : (List DCell)} {p50 : (List DCell)} {p51 : (List DCell)} {p52 : (List Int)} {p53 : (List Int)} : reach_Alike_l46 N y24 p31 p32 (m46 + 1) p47 p48 p49 p50 p51 p52 p53 = bif decide (p47 < (y24.length : Int)) then ((getE p52 p47).bind fun x55 => (reach_At_O N (⟨p48, p49⟩ : DMemory) x55).bind fun y56 => (reach_cleaned_O N y56 p52).bind fun y61 => (getE p53 p47).bind fun x66 => (reach_At_O N (⟨p50, p51⟩ : DMemory) x66).bind fun y67 => (reach_cleaned_O N y67 p53).bind fun y72 => (bif !decide (y61.Kind = y72.Kind) then (some true) else (some (!decide (y61.Shape = y72.Shape)))).bind fun b81 => (bif b81 then (some true) else (some (!decide (y61.Flags = y72.Flags)))).bind fun b82 => (bif b82 then (some true) else ((reach_twins_values_O N (⟨(⟨p48, p49⟩ : DMemory), (⟨p50, p51⟩ : DMemory), p52, p53, p31, p32⟩ : DTwins) y61.Slots y72.Slots).bind fun y84 => some (!y84))).bind fun b83 => (bif b83 then (some true) else ((reach_twins_values_O N (⟨(⟨p48, p49⟩ : DMemory), (⟨p50, p51⟩ : DMemory), p52, p53, p31, p32⟩ : DTwins) y61.More y72.More).bind fun y86 => some (!y86))).bind fun b85 => bif b85 then (some false) else (req (in64 (p47 + 1)) ((reach_Alike_l46 N y24 p31 p32 m46) (p47 + 1) p48 p49 p50 p51 p52 p53))) else (reach_Alike_j45 N) := rfl
def reach_Alike_j30 (N : Nat) (a1 : (List DValue)) (a3 : (List DValue)) (y9 : (DMemory)) (y14 : (DMemory)) (y24 : ((List Int))) (y27 : ((List Int))) (p31 : (List (Int × Int))) (p32 : (List (Int × Int))) : Option Bool :=
  (reach_twins_values_O N (⟨y9, y14, y24, y27, p31, p32⟩ : DTwins) a1 a3).bind fun y43 => bif !y43 then (some false) else (reach_Alike_l46 N y24 p31 p32 N 0 y9.Young y9.Old y14.Young y14.Old y24 y27)
def reach_Alike_l33 (N : Nat) (y24 : ((List Int))) (a1 : (List DValue)) (a3 : (List DValue)) (y9 : (DMemory)) (y14 : (DMemory)) (y27 : ((List Int))) : Nat → Int → (List (Int × Int)) → (List (Int × Int)) → Option Bool
  | 0, _, _, _ => none
  | m33 + 1, p34, p35, p36 => bif decide (p34 < (y24.length : Int)) then ((getE y24 p34).bind fun x38 => (getE y27 p34).bind fun x39 => req (in64 (p34 + 1)) ((reach_Alike_l33 N y24 a1 a3 y9 y14 y27 m33) (p34 + 1) (upL (entL p35 x38 0) x38 p34) (upL (entL p36 x39 0) x39 p34))) else (reach_Alike_j30 N a1 a3 y9 y14 y24 y27 p35 p36)
theorem reach_Alike_l33_s {N m33 : Nat} {y24 : ((List Int))} {a1 : (List DValue)} {a3 : (List DValue)} {y9 : (DMemory)} {y14 : (DMemory)} {y27 : ((List Int))} {p34 : Int} {p35 : (List (Int × Int))} {p36 : (List (Int × Int))} : reach_Alike_l33 N y24 a1 a3 y9 y14 y27 (m33 + 1) p34 p35 p36 = bif decide (p34 < (y24.length : Int)) then ((getE y24 p34).bind fun x38 => (getE y27 p34).bind fun x39 => req (in64 (p34 + 1)) ((reach_Alike_l33 N y24 a1 a3 y9 y14 y27 m33) (p34 + 1) (upL (entL p35 x38 0) x38 p34) (upL (entL p36 x39 0) x39 p34))) else (reach_Alike_j30 N a1 a3 y9 y14 y24 y27 p35 p36) := rfl
def reach_Alike_O (N : Nat) (a0 : DMemory) (a1 : (List DValue)) (a2 : DMemory) (a3 : (List DValue)) : Option Bool :=
  (reach_bare_O N a0).bind fun y9 => (reach_bare_O N a2).bind fun y14 => (reach_Order_O N y9 a1).bind fun y24 => (reach_Order_O N y14 a3).bind fun y27 => bif !decide ((y24.length : Int) = (y27.length : Int)) then (some false) else (reach_Alike_l33 N y24 a1 a3 y9 y14 y27 N 0 ([] : (List (Int × Int))) ([] : (List (Int × Int))))
set_option maxHeartbeats 4000000 in
theorem reach_Alike_ok {N : Nat} {a0 : DMemory} {a1 : (List DValue)} {a2 : DMemory} {a3 : (List DValue)} {r : Bool} (h : reach_Alike_O N a0 a1 a2 a3 = some r) {A1 : Option Addr} {n1 c1 : Nat} {A2 : Option Addr} {n2 c2 : Nat} {A3 : Option Addr} {n3 c3 : Nat} {A4 : Option Addr} {n4 c4 : Nat} {A5 : Option Addr} {n5 c5 : Nat} {A6 : Option Addr} {n6 c6 : Nat} : Okc Tryz.prog 28 [.agg #[.slice A1 n1 c1, .slice A2 n2 c2], .slice A3 n3 c3, .agg #[.slice A4 n4 c4, .slice A5 n5 c5], .slice A6 n6 c6] ([slC rDCell (.slice A1 n1 c1) a0.Young, slC rDCell (.slice A2 n2 c2) a0.Old, slC rDValue (.slice A3 n3 c3) a1, slC rDCell (.slice A4 n4 c4) a2.Young, slC rDCell (.slice A5 n5 c5) a2.Old, slC rDValue (.slice A6 n6 c6) a3]) (fun (u : Value) (post : List Chunk) => u = .bool r ∧ post = []) := by
  refine ok_E Tryz.func28 rfl rfl ?_
  simp only [envOf]
  refine run ?_
  refine G_opd (op_box rfl rfl) rfl rfl rfl ?_
  rintro _ _ ⟨B7, rfl, rfl⟩
  refine G_opd (op_box rfl rfl) rfl rfl rfl ?_
  rintro _ _ ⟨B8, rfl, rfl⟩
  refine run ?_
  refine G_seq ?_
  obtain ⟨y9, hy9, h⟩ := bind_elim h
  obtain ⟨y14, hy14, h⟩ := bind_elim h
  refine G_sub (t := [(1, .slice A3 n3 c3), (3, .slice A6 n6 c6), (4, .pointer (some ⟨B7, 0, none⟩)), (6, .pointer (some ⟨B8, 0, none⟩)), (8, .bool false)]) ?_ subT (cv_refl _)
  refine G_monoX (by kernel_rfl) 6 [] [1, 3, 4, 5] [14, 15, 16, 17, 18, 19] [[], [0], [], [2], [], []] [aV (.agg #[.slice A1 n1 c1, .slice A2 n2 c2]),
 aX6 (fun (A12 : Option Addr) (n12 c12 : Nat) (A13 : Option Addr) (n13 c13 : Nat) => .agg #[.slice A12 n12 c12, .slice A13 n13 c13]) (fun A12 n12 c12 A13 n13 c13 => [ownC rDCell 32 (.slice A12 n12 c12) y9.Young, ownC rDCell 32 (.slice A13 n13 c13) y9.Old]),
 aV (.agg #[.slice A4 n4 c4, .slice A5 n5 c5]),
 aX6 (fun (A17 : Option Addr) (n17 c17 : Nat) (A18 : Option Addr) (n18 c18 : Nat) => .agg #[.slice A17 n17 c17, .slice A18 n18 c18]) (fun A17 n17 c17 A18 n18 c18 => [ownC rDCell 32 (.slice A17 n17 c17) y14.Young, ownC rDCell 32 (.slice A18 n18 c18) y14.Old]),
 aX1 (fun (M20 : Nat) => .map (some M20)) (fun M20 => [mapC ekI evI M20 ([] : (List (Int × Int)))]),
 aX1 (fun (M22 : Nat) => .map (some M22)) (fun M22 => [mapC ekI evI M22 ([] : (List (Int × Int)))])] [] (cv_refl _) (qB_nil) (by kernel_rfl) rfl rfl ?_ ?_ ?_
  · exact qs_nil
  · refine steps_cons rfl ?_ ?_
    · refine X_op (op_makeMap (ek := ekI) (ev := evI)) rfl ?_
      rintro _ _ ⟨M21, rfl, rfl⟩
      exact cvp1 M21 (cv_refl _)
    refine steps_cons rfl ?_ ?_
    · refine X_op (op_makeMap (ek := ekI) (ev := evI)) rfl ?_
      rintro _ _ ⟨M19, rfl, rfl⟩
      exact cvp1 M19 (cv_refl _)
    refine steps_cons rfl ?_ ?_
    · refine X_op (op_call (reach_bare_ok hy14) call70 rfl (cv_take [5, 6] [] [0, 1, 2, 3, 4, 5, 6, 7] 8 rfl)) rfl ?_
      rintro _ _ ⟨_, ⟨A15, n15, c15, A16, n16, c16, rfl, rfl⟩, rfl⟩
      exact cvp6 A15 n15 c15 A16 n16 c16 (cv_refl _)
    refine steps_cons rfl ?_ ?_
    · exact X_rd (rd_boxS (us := [.slice A4 n4 c4, .slice A5 n5 c5]) 0 rfl rfl agg24 rfl) rfl (cvpV rfl (cv_refl _))
    refine steps_cons rfl ?_ ?_
    · refine X_op (op_call (reach_bare_ok hy9) call70 rfl (cv_take [2, 3] [] [0, 1, 2, 3, 4, 5, 6, 7] 8 rfl)) rfl ?_
      rintro _ _ ⟨_, ⟨A10, n10, c10, A11, n11, c11, rfl, rfl⟩, rfl⟩
      exact cvp6 A10 n10 c10 A11 n11 c11 (cv_refl _)
    refine steps_cons rfl ?_ ?_
    · exact X_rd (rd_boxS (us := [.slice A1 n1 c1, .slice A2 n2 c2]) 1 rfl rfl agg24 rfl) rfl (cvpV rfl (cv_refl _))
    exact steps_nil
  · intro A12 n12 c12 A13 n13 c13 A17 n17 c17 A18 n18 c18 M20 M22
    refine N_sub (t := [(15, .agg #[.slice A12 n12 c12, .slice A13 n13 c13]), (17, .agg #[.slice A17 n17 c17, .slice A18 n18 c18]), (18, .map (some M20)), (19, .map (some M22)), (1, .slice A3 n3 c3), (3, .slice A6 n6 c6), (4, .pointer (some ⟨B7, 0, none⟩)), (6, .pointer (some ⟨B8, 0, none⟩)), (8, .bool false)]) (L' := [ownC rDCell 32 (.slice A12 n12 c12) y9.Young, ownC rDCell 32 (.slice A13 n13 c13) y9.Old, ownC rDCell 32 (.slice A17 n17 c17) y14.Young, ownC rDCell 32 (.slice A18 n18 c18) y14.Old, mapC ekI evI M20 ([] : (List (Int × Int))), mapC ekI evI M22 ([] : (List (Int × Int))), boxC B8 24 [.slice A4 n4 c4, .slice A5 n5 c5], boxC B7 24 [.slice A1 n1 c1, .slice A2 n2 c2], slC rDCell (.slice A1 n1 c1) a0.Young, slC rDCell (.slice A2 n2 c2) a0.Old, slC rDValue (.slice A3 n3 c3) a1, slC rDCell (.slice A4 n4 c4) a2.Young, slC rDCell (.slice A5 n5 c5) a2.Old, slC rDValue (.slice A6 n6 c6) a3]) ?_ subT (cv_refl _)
    refine N_ev 6 rfl (by kernel_rfl) (ev_build rfl (bld_90_0_1_4_5 _ _ _ _ _ _ _ _ _ _ _ _ _ _)) rfl rfl rfl ?_
    refine N_opd 7 rfl (by kernel_rfl) (op_box rfl rfl) rfl rfl rfl ?_
    rintro _ _ ⟨B23, rfl, rfl⟩
    refine N_ev 8 rfl (by kernel_rfl) (ev_assign rfl) rfl rfl rfl ?_
    refine N_done (by kernel_rfl) ?_
    refine nx_n ?_
    refine G_seq ?_
    obtain ⟨y24, hy24, h⟩ := bind_elim h
    refine G_sub (t := [(1, .slice A3 n3 c3), (3, .slice A6 n6 c6), (8, .bool false), (9, .pointer (some ⟨B23, 0, none⟩))]) ?_ subT (cv_refl _)
    refine G_monoX (by kernel_rfl) 13 [0, 1] [0, 1, 7, 11, 12] [22, 23, 24, 25, 26, 27, 28, 29, 30, 31, 32, 33, 34] [[], [], [], [2], [3], [4], [], [5, 6], [], [8], [9], [10], []] [aV (.pointer (some ⟨B23, 0, none⟩)),
 aV (.pointer (some ⟨B23, 0, none⟩)),
 aV (.pointer (some ⟨B23, 0, none⟩)),
 aV (.pointer (some ⟨B23, 0, none⟩)),
 aV (.pointer (some ⟨B23, 0, none⟩)),
 aV (.agg #[.slice A12 n12 c12, .slice A13 n13 c13]),
 aV (.slice A3 n3 c3),
 aX3 (fun (A26 : Option Addr) (n26 c26 : Nat) => .slice A26 n26 c26) (fun A26 n26 c26 => [ownC (rInt .i64) 3 (.slice A26 n26 c26) y24]),
 aV (.pointer (some ⟨B23, 0, none⟩)),
 aV (.pointer (some ⟨B23, 0, none⟩)),
 aV (.pointer (some ⟨B23, 2, none⟩)),
 aV (.agg #[.slice A17 n17 c17, .slice A18 n18 c18]),
 aV (.slice A6 n6 c6)] [] (cv_refl _) (qB_cons rfl (qB_cons rfl qB_nil)) (by kernel_rfl) rfl rfl ?_ ?_ ?_
    · refine qs_cons rfl ?_ ?_
      · exact QS_ev (ev_move rfl) rfl (cvpV rfl (cv_refl _))
      refine qs_cons rfl ?_ ?_
      · exact QS_ev (ev_move rfl) rfl (cvpV rfl (cv_refl _))
      exact qs_nil
    · refine steps_cons rfl ?_ ?_
      · exact X_ev (ev_move rfl) rfl (cvpV rfl (cv_refl _))
      refine steps_cons rfl ?_ ?_
      · exact X_rd (rd_boxS (us := [.slice A17 n17 c17, .slice A18 n18 c18]) 0 rfl rfl agg24 rfl) rfl (cvpV rfl (cv_refl _))
      refine steps_cons rfl ?_ ?_
      · exact X_ev (ev_fa rfl fa_90_1) rfl (cvpV rfl (cv_refl _))
      refine steps_cons rfl ?_ ?_
      · exact X_ev (ev_nilCheck rfl) rfl (cvpV rfl (cv_refl _))
      refine steps_cons rfl ?_ ?_
      · exact X_ev (ev_move rfl) rfl (cvpV rfl (cv_refl _))
      refine steps_cons rfl ?_ ?_
      · refine X_op (op_callR (reach_Order_ok hy24) call25 rfl (mem_cons (lent_own (i := 1) rfl) (mem_cons (lent_own (i := 2) rfl) (mem_cons (lent_ro (i := 11) rfl rfl) mem_nil))) reach_Order_free) rfl ?_
        rintro _ _ ⟨_, ⟨A25, n25, c25, rfl, rfl⟩, rfl⟩
        exact cvp3 A25 n25 c25 (cv_refl _)
      refine steps_cons rfl ?_ ?_
      · exact X_ev (ev_move rfl) rfl (cvpV rfl (cv_refl _))
      refine steps_cons rfl ?_ ?_
      · exact X_rd (rd_boxS (us := [.slice A12 n12 c12, .slice A13 n13 c13]) 0 rfl rfl agg24 rfl) rfl (cvpV rfl (cv_refl _))
      refine steps_cons rfl ?_ ?_
      · exact X_ev (ev_fa0 rfl fa_90_0) rfl (cvpV rfl (cv_refl _))
      refine steps_cons rfl ?_ ?_
      · exact X_ev (ev_nilCheck rfl) rfl (cvpV rfl (cv_refl _))
      refine steps_cons rfl ?_ ?_
      · exact X_ev (ev_move rfl) rfl (cvpV rfl (cv_refl _))
      refine steps_cons rfl ?_ ?_
      · exact X_ev (ev_move rfl) rfl (cvpV rfl (cv_refl _))
      refine steps_cons rfl ?_ ?_
      · exact X_ev (ev_move rfl) rfl (cvpV rfl (cv_refl _))
      exact steps_nil
    · intro A26 n26 c26
      refine N_sub (t := [(22, .pointer (some ⟨B23, 0, none⟩)), (23, .pointer (some ⟨B23, 0, none⟩)), (29, .slice A26 n26 c26), (33, .agg #[.slice A17 n17 c17, .slice A18 n18 c18]), (34, .slice A6 n6 c6), (1, .slice A3 n3 c3), (3, .slice A6 n6 c6), (8, .bool false), (9, .pointer (some ⟨B23, 0, none⟩))]) (L' := [ownC (rInt .i64) 3 (.slice A26 n26 c26) y24, boxC B23 90 [.slice A12 n12 c12, .slice A13 n13 c13, .slice A17 n17 c17, .slice A18 n18 c18, .slice none 0 0, .slice none 0 0, .map (some M20), .map (some M22)], ownC rDCell 32 (.slice A12 n12 c12) y9.Young, ownC rDCell 32 (.slice A13 n13 c13) y9.Old, ownC rDCell 32 (.slice A17 n17 c17) y14.Young, ownC rDCell 32 (.slice A18 n18 c18) y14.Old, mapC ekI evI M20 ([] : (List (Int × Int))), mapC ekI evI M22 ([] : (List (Int × Int))), boxC B8 24 [.slice A4 n4 c4, .slice A5 n5 c5], boxC B7 24 [.slice A1 n1 c1, .slice A2 n2 c2], slC rDCell (.slice A1 n1 c1) a0.Young, slC rDCell (.slice A2 n2 c2) a0.Old, slC rDValue (.slice A3 n3 c3) a1, slC rDCell (.slice A4 n4 c4) a2.Young, slC rDCell (.slice A5 n5 c5) a2.Old, slC rDValue (.slice A6 n6 c6) a3]) ?_ subT (cv_refl _)
      obtain ⟨y27, hy27, h⟩ := bind_elim h
      refine N_opd 13 rfl (by kernel_rfl) (op_callR (reach_Order_ok hy27) call25 rfl (mem_cons (lent_own (i := 4) rfl) (mem_cons (lent_own (i := 5) rfl) (mem_cons (lent_ro (i := 15) rfl rfl) mem_nil))) reach_Order_free) rfl rfl rfl ?_
      rintro _ _ ⟨_, ⟨A28, n28, c28, rfl, rfl⟩, rfl⟩
      refine N_ev 14 rfl (by kernel_rfl) (ev_nilCheck rfl) rfl rfl rfl ?_
      refine N_ev 15 rfl (by kernel_rfl) (ev_fa rfl fa_90_2) rfl rfl rfl ?_
      refine N_opn 16 rfl (by kernel_rfl) (op_store (us := [.slice A26 n26 c26]) (cs' := [.slice A12 n12 c12, .slice A13 n13 c13, .slice A17 n17 c17, .slice A18 n18 c18, .slice A26 n26 c26, .slice none 0 0, .map (some M20), .map (some M22)]) 2 rfl rfl rfl rfl size35 rfl rfl rfl) rfl rfl ?_
      rintro _ _ rfl
      refine N_norm ([ownC (rInt .i64) 3 (.slice A28 n28 c28) y27, ownC (rInt .i64) 3 (.slice A26 n26 c26) y24, boxC B23 90 [.slice A12 n12 c12, .slice A13 n13 c13, .slice A17 n17 c17, .slice A18 n18 c18, .slice A26 n26 c26, .slice none 0 0, .map (some M20), .map (some M22)], ownC rDCell 32 (.slice A12 n12 c12) y9.Young, ownC rDCell 32 (.slice A13 n13 c13) y9.Old, ownC rDCell 32 (.slice A17 n17 c17) y14.Young, ownC rDCell 32 (.slice A18 n18 c18) y14.Old, mapC ekI evI M20 ([] : (List (Int × Int))), mapC ekI evI M22 ([] : (List (Int × Int))), boxC B8 24 [.slice A4 n4 c4, .slice A5 n5 c5], boxC B7 24 [.slice A1 n1 c1, .slice A2 n2 c2], slC rDCell (.slice A1 n1 c1) a0.Young, slC rDCell (.slice A2 n2 c2) a0.Old, slC rDValue (.slice A3 n3 c3) a1, slC rDCell (.slice A4 n4 c4) a2.Young, slC rDCell (.slice A5 n5 c5) a2.Old, slC rDValue (.slice A6 n6 c6) a3]) rfl ?_
      refine N_ev 17 rfl (by kernel_rfl) (ev_nilCheck rfl) rfl rfl rfl ?_
      refine N_ev 18 rfl (by kernel_rfl) (ev_fa rfl fa_90_3) rfl rfl rfl ?_
      refine N_opn 19 rfl (by kernel_rfl) (op_store (us := [.slice A28 n28 c28]) (cs' := [.slice A12 n12 c12, .slice A13 n13 c13, .slice A17 n17 c17, .slice A18 n18 c18, .slice A26 n26 c26, .slice A28 n28 c28, .map (some M20), .map (some M22)]) 2 rfl rfl rfl rfl size35 rfl rfl rfl) rfl rfl ?_
      rintro _ _ rfl
      refine N_norm ([ownC (rInt .i64) 3 (.slice A28 n28 c28) y27, ownC (rInt .i64) 3 (.slice A26 n26 c26) y24, boxC B23 90 [.slice A12 n12 c12, .slice A13 n13 c13, .slice A17 n17 c17, .slice A18 n18 c18, .slice A26 n26 c26, .slice A28 n28 c28, .map (some M20), .map (some M22)], ownC rDCell 32 (.slice A12 n12 c12) y9.Young, ownC rDCell 32 (.slice A13 n13 c13) y9.Old, ownC rDCell 32 (.slice A17 n17 c17) y14.Young, ownC rDCell 32 (.slice A18 n18 c18) y14.Old, mapC ekI evI M20 ([] : (List (Int × Int))), mapC ekI evI M22 ([] : (List (Int × Int))), boxC B8 24 [.slice A4 n4 c4, .slice A5 n5 c5], boxC B7 24 [.slice A1 n1 c1, .slice A2 n2 c2], slC rDCell (.slice A1 n1 c1) a0.Young, slC rDCell (.slice A2 n2 c2) a0.Old, slC rDValue (.slice A3 n3 c3) a1, slC rDCell (.slice A4 n4 c4) a2.Young, slC rDCell (.slice A5 n5 c5) a2.Old, slC rDValue (.slice A6 n6 c6) a3]) rfl ?_
      refine N_done (by kernel_rfl) ?_
      refine nx_n ?_
      refine G_seq ?_
      refine G_seq ?_
      refine G_drawn (by kernel_rfl) _ (cv_refl _) ?_
      refine T3_ev 0 rfl (by kernel_rfl) (ev_move rfl) rfl rfl ?_
      refine T3_ev 1 rfl (by kernel_rfl) (ev_nilCheck rfl) rfl rfl ?_
      refine T3_ev 2 rfl (by kernel_rfl) (ev_fa rfl fa_90_2) rfl rfl ?_
      refine T3_rd 3 rfl (by kernel_rfl) (rd_box1 2 rfl rfl one35 rfl) rfl rfl ?_
      refine T3_rd 4 rfl (by kernel_rfl) (rd_len 1 rfl els_own rfl Tryz.underlying35) rfl rfl ?_
      refine T3_ev 5 rfl (by kernel_rfl) (ev_move rfl) rfl rfl ?_
      refine T3_ev 6 rfl (by kernel_rfl) (ev_nilCheck rfl) rfl rfl ?_
      refine T3_ev 7 rfl (by kernel_rfl) (ev_fa rfl fa_90_3) rfl rfl ?_
      refine T3_rd 8 rfl (by kernel_rfl) (rd_box1 2 rfl rfl one35 rfl) rfl rfl ?_
      refine T3_rd 9 rfl (by kernel_rfl) (rd_len 0 rfl els_own rfl Tryz.underlying35) rfl rfl ?_
      refine T3_ev 10 rfl (by kernel_rfl) (ev_ne rfl rfl) rfl rfl ?_
      refine T3_done (by kernel_rfl) ?_
      refine nx_n ?_
      refine G_cond rfl (fun g29 => ?_) (fun g29 => ?_)
      · replace h := cond_t g29 h
        refine run ?_
        obtain rfl := Option.some.inj h
        exact endG1 rfl rfl (cv_sel [] 17 rfl rfl) ⟨rfl, rfl⟩
      · replace h := cond_f g29 h
        refine run ?_
        refine G_joinF (fun s L => ∃ (p31 : (List (Int × Int))) (p32 : (List (Int × Int))), reach_Alike_j30 N a1 a3 y9 y14 y24 y27 p31 p32 = some r ∧ s = [(1, .slice A3 n3 c3), (3, .slice A6 n6 c6), (8, .bool false), (9, .pointer (some ⟨B23, 0, none⟩))] ∧ L = [slC rDValue (.slice A3 n3 c3) a1, slC rDValue (.slice A6 n6 c6) a3, ownC rDCell 32 (.slice A12 n12 c12) y9.Young, ownC rDCell 32 (.slice A13 n13 c13) y9.Old, ownC rDCell 32 (.slice A17 n17 c17) y14.Young, ownC rDCell 32 (.slice A18 n18 c18) y14.Old, ownC (rInt .i64) 3 (.slice A26 n26 c26) y24, ownC (rInt .i64) 3 (.slice A28 n28 c28) y27, mapC ekI evI M20 p31, mapC ekI evI M22 p32, boxC B23 90 [.slice A12 n12 c12, .slice A13 n13 c13, .slice A17 n17 c17, .slice A18 n18 c18, .slice A26 n26 c26, .slice A28 n28 c28, .map (some M20), .map (some M22)]]) ?_ ?_
        · refine run ?_
          refine G_rd (rd_len 1 rfl els_own rfl Tryz.underlying35) rfl rfl rfl ?_
          refine run ?_
          refine G_loopF (fun m s L => ∃ (p34 : Int) (p35 : (List (Int × Int))) (p36 : (List (Int × Int))), reach_Alike_l33 N y24 a1 a3 y9 y14 y27 m p34 p35 p36 = some r ∧ s = [(1, .slice A3 n3 c3), (3, .slice A6 n6 c6), (8, .bool false), (9, .pointer (some ⟨B23, 0, none⟩)), (55, .int .i64 (y24.length : Int)), (56, .int .i64 p34)] ∧ L = [slC rDValue (.slice A3 n3 c3) a1, slC rDValue (.slice A6 n6 c6) a3, ownC rDCell 32 (.slice A12 n12 c12) y9.Young, ownC rDCell 32 (.slice A13 n13 c13) y9.Old, ownC rDCell 32 (.slice A17 n17 c17) y14.Young, ownC rDCell 32 (.slice A18 n18 c18) y14.Old, ownC (rInt .i64) 3 (.slice A26 n26 c26) y24, ownC (rInt .i64) 3 (.slice A28 n28 c28) y27, mapC ekI evI M20 p35, mapC ekI evI M22 p36, boxC B23 90 [.slice A12 n12 c12, .slice A13 n13 c13, .slice A17 n17 c17, .slice A18 n18 c18, .slice A26 n26 c26, .slice A28 n28 c28, .map (some M20), .map (some M22)]]) N _ _ ⟨0, ([] : (List (Int × Int))), ([] : (List (Int × Int))), h, rfl, rfl⟩ (sub_cons rfl (sub_cons rfl (sub_cons rfl (sub_cons rfl (sub_cons rfl (sub_cons rfl sub_nil)))))) (cv_sel [13, 16, 3, 4, 5, 6, 1, 0, 7, 8, 2] 17 rfl rfl) ?_
          rintro (_ | m33) _ _ ⟨p34, p35, p36, h, rfl, rfl⟩
          · exact none_some h
          rw [reach_Alike_l33_s] at h
          refine run ?_
          refine G_seq ?_
          refine G_cond rfl (fun g37 => ?_) (fun g37 => ?_)
          · replace h := cond_t g37 h
            refine run ?_
            refine G_seq ?_
            refine run ?_
            refine G_drawn (by kernel_rfl) ([slC rDValue (.slice A3 n3 c3) a1, slC rDValue (.slice A6 n6 c6) a3, ownC rDCell 32 (.slice A12 n12 c12) y9.Young, ownC rDCell 32 (.slice A13 n13 c13) y9.Old, ownC rDCell 32 (.slice A17 n17 c17) y14.Young, ownC rDCell 32 (.slice A18 n18 c18) y14.Old, ownC (rInt .i64) 3 (.slice A26 n26 c26) y24, ownC (rInt .i64) 3 (.slice A28 n28 c28) y27, boxC B23 90 [.slice A12 n12 c12, .slice A13 n13 c13, .slice A17 n17 c17, .slice A18 n18 c18, .slice A26 n26 c26, .slice A28 n28 c28, .map (some M20), .map (some M22)]]) (cv_sel [0, 1, 2, 3, 4, 5, 6, 7, 10] 11 rfl rfl) ?_
            refine T3_ev 0 rfl (by kernel_rfl) (ev_move rfl) rfl rfl ?_
            refine T3_ev 1 rfl (by kernel_rfl) (ev_nilCheck rfl) rfl rfl ?_
            refine T3_ev 2 rfl (by kernel_rfl) (ev_fa rfl fa_90_4) rfl rfl ?_
            refine T3_rd 3 rfl (by kernel_rfl) (rd_box1 8 rfl rfl one88 rfl) rfl rfl ?_
            refine T3_ev 4 rfl (by kernel_rfl) (ev_move rfl) rfl rfl ?_
            refine T3_ev 5 rfl (by kernel_rfl) (ev_nilCheck rfl) rfl rfl ?_
            refine T3_ev 6 rfl (by kernel_rfl) (ev_fa rfl fa_90_2) rfl rfl ?_
            refine T3_rd 7 rfl (by kernel_rfl) (rd_box1 8 rfl rfl one35 rfl) rfl rfl ?_
            refine T3_ev 8 rfl (by kernel_rfl) (ev_move rfl) rfl rfl ?_
            obtain ⟨x38, hx38, h⟩ := bind_elim h
            obtain ⟨lx38, ux38, hx38⟩ := getE_elim hx38
            refine T3_rd 9 rfl (by kernel_rfl) (rd_idx 6 rfl els_own rfl rfl Tryz.underlying35 size3 lx38 ux38) rfl rfl ?_
            refine T3_rd 10 rfl (by kernel_rfl) (rd_elem1 (u := .int .i64 x38) 6 rfl els_own rfl hx38 one3 (fun _ _ _ h => by rw [show _ = _ from h]; rfl)) rfl rfl ?_
            refine T3_ev 11 rfl (by kernel_rfl) (ev_move rfl) rfl rfl ?_
            refine T3_ev 12 rfl (by kernel_rfl) (ev_nilCheck rfl) rfl rfl ?_
            refine T3_ev 13 rfl (by kernel_rfl) (ev_fa rfl fa_90_5) rfl rfl ?_
            refine T3_rd 14 rfl (by kernel_rfl) (rd_box1 8 rfl rfl one88 rfl) rfl rfl ?_
            refine T3_ev 15 rfl (by kernel_rfl) (ev_move rfl) rfl rfl ?_
            refine T3_ev 16 rfl (by kernel_rfl) (ev_nilCheck rfl) rfl rfl ?_
            refine T3_ev 17 rfl (by kernel_rfl) (ev_fa rfl fa_90_3) rfl rfl ?_
            refine T3_rd 18 rfl (by kernel_rfl) (rd_box1 8 rfl rfl one35 rfl) rfl rfl ?_
            refine T3_ev 19 rfl (by kernel_rfl) (ev_move rfl) rfl rfl ?_
            obtain ⟨x39, hx39, h⟩ := bind_elim h
            obtain ⟨lx39, ux39, hx39⟩ := getE_elim hx39
            refine T3_rd 20 rfl (by kernel_rfl) (rd_idx 7 rfl els_own rfl rfl Tryz.underlying35 size3 lx39 ux39) rfl rfl ?_
            refine T3_rd 21 rfl (by kernel_rfl) (rd_elem1 (u := .int .i64 x39) 7 rfl els_own rfl hx39 one3 (fun _ _ _ h => by rw [show _ = _ from h]; rfl)) rfl rfl ?_
            refine T3_ev 22 rfl (by kernel_rfl) (ev_move rfl) rfl rfl ?_
            refine T3_ev 23 rfl (by kernel_rfl) (ev_move rfl) rfl rfl ?_
            refine T3_opd 24 rfl (by kernel_rfl) (op_mapEntry (a := x38) (z := 0) 8 rfl rfl rfl Tryz.underlying88 (keyOk_int Tryz.underlying3) zero3) rfl rfl rfl ?_
            rintro _ _ ⟨n40, rfl, rfl⟩
            refine ⟨[slC rDValue (.slice A3 n3 c3) a1, slC rDValue (.slice A6 n6 c6) a3, ownC rDCell 32 (.slice A12 n12 c12) y9.Young, ownC rDCell 32 (.slice A13 n13 c13) y9.Old, ownC rDCell 32 (.slice A17 n17 c17) y14.Young, ownC rDCell 32 (.slice A18 n18 c18) y14.Old, ownC (rInt .i64) 3 (.slice A26 n26 c26) y24, ownC (rInt .i64) 3 (.slice A28 n28 c28) y27, boxC B23 90 [.slice A12 n12 c12, .slice A13 n13 c13, .slice A17 n17 c17, .slice A18 n18 c18, .slice A26 n26 c26, .slice A28 n28 c28, .map (some M20), .map (some M22)]], cv_sel [0, 1, 2, 3, 4, 5, 6, 7, 10] 11 rfl rfl, cv_refl _, ?_⟩
            refine T3_norm ([slC rDValue (.slice A3 n3 c3) a1, slC rDValue (.slice A6 n6 c6) a3, ownC rDCell 32 (.slice A12 n12 c12) y9.Young, ownC rDCell 32 (.slice A13 n13 c13) y9.Old, ownC rDCell 32 (.slice A17 n17 c17) y14.Young, ownC rDCell 32 (.slice A18 n18 c18) y14.Old, ownC (rInt .i64) 3 (.slice A26 n26 c26) y24, ownC (rInt .i64) 3 (.slice A28 n28 c28) y27, entC ekI evI M20 (entL p35 x38 0) x38 n40, mapC ekI evI M22 p36, boxC B23 90 [.slice A12 n12 c12, .slice A13 n13 c13, .slice A17 n17 c17, .slice A18 n18 c18, .slice A26 n26 c26, .slice A28 n28 c28, .map (some M20), .map (some M22)]]) rfl ?_
            refine T3_ev 25 rfl (by kernel_rfl) (ev_extract rfl rfl) rfl rfl ?_
            refine T3_opn 26 rfl (by kernel_rfl) (op_entryStore (b := p34) 8 rfl rfl rfl rfl) rfl rfl ?_
            rintro _ _ rfl
            refine ⟨[slC rDValue (.slice A3 n3 c3) a1, slC rDValue (.slice A6 n6 c6) a3, ownC rDCell 32 (.slice A12 n12 c12) y9.Young, ownC rDCell 32 (.slice A13 n13 c13) y9.Old, ownC rDCell 32 (.slice A17 n17 c17) y14.Young, ownC rDCell 32 (.slice A18 n18 c18) y14.Old, ownC (rInt .i64) 3 (.slice A26 n26 c26) y24, ownC (rInt .i64) 3 (.slice A28 n28 c28) y27, boxC B23 90 [.slice A12 n12 c12, .slice A13 n13 c13, .slice A17 n17 c17, .slice A18 n18 c18, .slice A26 n26 c26, .slice A28 n28 c28, .map (some M20), .map (some M22)]], cv_sel [0, 1, 2, 3, 4, 5, 6, 7, 10] 11 rfl rfl, cv_refl _, ?_⟩
            refine T3_norm ([slC rDValue (.slice A3 n3 c3) a1, slC rDValue (.slice A6 n6 c6) a3, ownC rDCell 32 (.slice A12 n12 c12) y9.Young, ownC rDCell 32 (.slice A13 n13 c13) y9.Old, ownC rDCell 32 (.slice A17 n17 c17) y14.Young, ownC rDCell 32 (.slice A18 n18 c18) y14.Old, ownC (rInt .i64) 3 (.slice A26 n26 c26) y24, ownC (rInt .i64) 3 (.slice A28 n28 c28) y27, mapC ekI evI M20 (upL (entL p35 x38 0) x38 p34), mapC ekI evI M22 p36, boxC B23 90 [.slice A12 n12 c12, .slice A13 n13 c13, .slice A17 n17 c17, .slice A18 n18 c18, .slice A26 n26 c26, .slice A28 n28 c28, .map (some M20), .map (some M22)]]) rfl ?_
            refine T3_opd 27 rfl (by kernel_rfl) (op_mapEntry (a := x39) (z := 0) 9 rfl rfl rfl Tryz.underlying88 (keyOk_int Tryz.underlying3) zero3) rfl rfl rfl ?_
            rintro _ _ ⟨n41, rfl, rfl⟩
            refine ⟨[slC rDValue (.slice A3 n3 c3) a1, slC rDValue (.slice A6 n6 c6) a3, ownC rDCell 32 (.slice A12 n12 c12) y9.Young, ownC rDCell 32 (.slice A13 n13 c13) y9.Old, ownC rDCell 32 (.slice A17 n17 c17) y14.Young, ownC rDCell 32 (.slice A18 n18 c18) y14.Old, ownC (rInt .i64) 3 (.slice A26 n26 c26) y24, ownC (rInt .i64) 3 (.slice A28 n28 c28) y27, boxC B23 90 [.slice A12 n12 c12, .slice A13 n13 c13, .slice A17 n17 c17, .slice A18 n18 c18, .slice A26 n26 c26, .slice A28 n28 c28, .map (some M20), .map (some M22)]], cv_sel [0, 1, 2, 3, 4, 5, 6, 7, 10] 11 rfl rfl, cv_refl _, ?_⟩
            refine T3_norm ([slC rDValue (.slice A3 n3 c3) a1, slC rDValue (.slice A6 n6 c6) a3, ownC rDCell 32 (.slice A12 n12 c12) y9.Young, ownC rDCell 32 (.slice A13 n13 c13) y9.Old, ownC rDCell 32 (.slice A17 n17 c17) y14.Young, ownC rDCell 32 (.slice A18 n18 c18) y14.Old, ownC (rInt .i64) 3 (.slice A26 n26 c26) y24, ownC (rInt .i64) 3 (.slice A28 n28 c28) y27, mapC ekI evI M20 (upL (entL p35 x38 0) x38 p34), entC ekI evI M22 (entL p36 x39 0) x39 n41, boxC B23 90 [.slice A12 n12 c12, .slice A13 n13 c13, .slice A17 n17 c17, .slice A18 n18 c18, .slice A26 n26 c26, .slice A28 n28 c28, .map (some M20), .map (some M22)]]) rfl ?_
            refine T3_ev 28 rfl (by kernel_rfl) (ev_extract rfl rfl) rfl rfl ?_
            refine T3_opn 29 rfl (by kernel_rfl) (op_entryStore (b := p34) 9 rfl rfl rfl rfl) rfl rfl ?_
            rintro _ _ rfl
            refine ⟨[slC rDValue (.slice A3 n3 c3) a1, slC rDValue (.slice A6 n6 c6) a3, ownC rDCell 32 (.slice A12 n12 c12) y9.Young, ownC rDCell 32 (.slice A13 n13 c13) y9.Old, ownC rDCell 32 (.slice A17 n17 c17) y14.Young, ownC rDCell 32 (.slice A18 n18 c18) y14.Old, ownC (rInt .i64) 3 (.slice A26 n26 c26) y24, ownC (rInt .i64) 3 (.slice A28 n28 c28) y27, boxC B23 90 [.slice A12 n12 c12, .slice A13 n13 c13, .slice A17 n17 c17, .slice A18 n18 c18, .slice A26 n26 c26, .slice A28 n28 c28, .map (some M20), .map (some M22)]], cv_sel [0, 1, 2, 3, 4, 5, 6, 7, 10] 11 rfl rfl, cv_refl _, ?_⟩
            refine T3_norm ([slC rDValue (.slice A3 n3 c3) a1, slC rDValue (.slice A6 n6 c6) a3, ownC rDCell 32 (.slice A12 n12 c12) y9.Young, ownC rDCell 32 (.slice A13 n13 c13) y9.Old, ownC rDCell 32 (.slice A17 n17 c17) y14.Young, ownC rDCell 32 (.slice A18 n18 c18) y14.Old, ownC (rInt .i64) 3 (.slice A26 n26 c26) y24, ownC (rInt .i64) 3 (.slice A28 n28 c28) y27, mapC ekI evI M20 (upL (entL p35 x38 0) x38 p34), mapC ekI evI M22 (upL (entL p36 x39 0) x39 p34), boxC B23 90 [.slice A12 n12 c12, .slice A13 n13 c13, .slice A17 n17 c17, .slice A18 n18 c18, .slice A26 n26 c26, .slice A28 n28 c28, .map (some M20), .map (some M22)]]) rfl ?_
            refine T3_done (by kernel_rfl) ?_
            refine run ?_
            obtain ⟨q42, h⟩ := req_elim h
            refine G_ev (ev_add rfl rfl q42.1 q42.2) rfl rfl rfl ?_
            refine run ?_
            exact ⟨m33, _, _, Nat.lt_succ_self _, ⟨p34 + 1, upL (entL p35 x38 0) x38 p34, upL (entL p36 x39 0) x39 p34, h, rfl, rfl⟩, sub_cons rfl (sub_cons rfl (sub_cons rfl (sub_cons rfl (sub_cons rfl (sub_cons rfl sub_nil))))), cv_sel [0, 1, 2, 3, 4, 5, 6, 7, 8, 9, 10] 11 rfl rfl⟩
          · replace h := cond_f g37 h
            refine run ?_
            exact ⟨_, _, ⟨p35, p36, h, rfl, rfl⟩, sub_cons rfl (sub_cons rfl (sub_cons rfl (sub_cons rfl sub_nil))), cv_sel [0, 1, 2, 3, 4, 5, 6, 7, 8, 9, 10] 11 rfl rfl⟩
        · rintro _ _ ⟨p31, p32, h, rfl, rfl⟩
          refine G_seq ?_
          refine run ?_
          obtain ⟨y43, hy43, h⟩ := bind_elim h
          refine G_opd (op_callR (reach_twins_values_ok hy43) call71 rfl (mem_cons (lent_box (i := 10) rfl) (mem_cons (lent_own (i := 2) rfl) (mem_cons (lent_own (i := 3) rfl) (mem_cons (lent_own (i := 4) rfl) (mem_cons (lent_own (i := 5) rfl) (mem_cons (lent_own (i := 6) rfl) (mem_cons (lent_own (i := 7) rfl) (mem_cons (lent_map (i := 8) rfl) (mem_cons (lent_map (i := 9) rfl) (mem_cons (lent_ro (i := 0) rfl rfl) (mem_cons (lent_ro (i := 1) rfl rfl) mem_nil))))))))))) reach_twins_values_free) rfl rfl rfl ?_
          rintro _ _ ⟨_, ⟨rfl, rfl⟩, rfl⟩
          refine run ?_
          refine G_cond rfl (fun g44 => ?_) (fun g44 => ?_)
          · replace h := cond_t g44 h
            refine run ?_
            obtain rfl := Option.some.inj h
            exact endG1 rfl rfl (cv_sel [] 11 rfl rfl) ⟨rfl, rfl⟩
          · replace h := cond_f g44 h
            refine run ?_
            refine G_joinF (fun s L => reach_Alike_j45 N = some r ∧ s = [(8, .bool false)] ∧ L = []) ?_ ?_
            · refine run ?_
              refine G_rd (rd_box1 10 rfl rfl one35 rfl) rfl rfl rfl ?_
              refine G_rd (rd_len 6 rfl els_own rfl Tryz.underlying35) rfl rfl rfl ?_
              refine run ?_
              refine G_loopF (fun m s L => ∃ (p47 : Int) (p48 : (List DCell)) (p49 : (List DCell)) (p50 : (List DCell)) (p51 : (List DCell)) (p52 : (List Int)) (p53 : (List Int)) (A48 : Option Addr) (n48 c48 : Nat) (A49 : Option Addr) (n49 c49 : Nat) (A50 : Option Addr) (n50 c50 : Nat) (A51 : Option Addr) (n51 c51 : Nat) (A52 : Option Addr) (n52 c52 : Nat) (A53 : Option Addr) (n53 c53 : Nat), reach_Alike_l46 N y24 p31 p32 m p47 p48 p49 p50 p51 p52 p53 = some r ∧ s = [(8, .bool false), (9, .pointer (some ⟨B23, 0, none⟩)), (97, .int .i64 (y24.length : Int)), (98, .int .i64 p47)] ∧ L = [slC rDCell (.slice A48 n48 c48) p48, slC rDCell (.slice A49 n49 c49) p49, slC rDCell (.slice A50 n50 c50) p50, slC rDCell (.slice A51 n51 c51) p51, slC (rInt .i64) (.slice A52 n52 c52) p52, slC (rInt .i64) (.slice A53 n53 c53) p53, mapC ekI evI M20 p31, mapC ekI evI M22 p32, boxC B23 90 [.slice A48 n48 c48, .slice A49 n49 c49, .slice A50 n50 c50, .slice A51 n51 c51, .slice A52 n52 c52, .slice A53 n53 c53, .map (some M20), .map (some M22)]]) N _ _ ⟨0, y9.Young, y9.Old, y14.Young, y14.Old, y24, y27, A12, n12, c12, A13, n13, c13, A17, n17, c17, A18, n18, c18, A26, n26, c26, A28, n28, c28, h, rfl, rfl⟩ (sub_cons rfl (sub_cons rfl (sub_cons rfl (sub_cons rfl sub_nil)))) ((cv_frz 2 rfl).trans ((cv_frz 3 rfl).trans ((cv_frz 4 rfl).trans ((cv_frz 5 rfl).trans ((cv_frz 6 rfl).trans ((cv_frz 7 rfl).trans (cv_sel [2, 3, 4, 5, 6, 7, 8, 9, 10] 11 rfl rfl))))))) ?_
              rintro (_ | m46) _ _ ⟨p47, p48, p49, p50, p51, p52, p53, A48, n48, c48, A49, n49, c49, A50, n50, c50, A51, n51, c51, A52, n52, c52, A53, n53, c53, h, rfl, rfl⟩
              · exact none_some h
              rw [reach_Alike_l46_s] at h
              refine run ?_
              refine G_seq ?_
              refine G_cond rfl (fun g54 => ?_) (fun g54 => ?_)
              · replace h := cond_t g54 h
                refine run ?_
                refine G_seq ?_
                refine run ?_
                refine G_seq ?_
                obtain ⟨x55, hx55, h⟩ := bind_elim h
                obtain ⟨lx55, ux55, hx55⟩ := getE_elim hx55
                obtain ⟨y56, hy56, h⟩ := bind_elim h
                obtain ⟨y61, hy61, h⟩ := bind_elim h
                obtain ⟨x66, hx66, h⟩ := bind_elim h
                obtain ⟨lx66, ux66, hx66⟩ := getE_elim hx66
                obtain ⟨y67, hy67, h⟩ := bind_elim h
                obtain ⟨y72, hy72, h⟩ := bind_elim h
                refine G_sub (t := [(8, .bool false), (9, .pointer (some ⟨B23, 0, none⟩)), (11, .int .i64 p47), (97, .int .i64 (y24.length : Int)), (98, .int .i64 p47)]) ?_ subT (cv_refl _)
                refine G_monoX (by kernel_rfl) 36 [] [16, 33, 34, 35] [101, 102, 103, 104, 105, 106, 107, 108, 109, 110, 111, 112, 113, 114, 115, 116, 117, 118, 119, 120, 121, 122, 123, 124, 125, 126, 127, 128, 129, 130, 131, 132, 133, 134, 12, 13] [[], [0], [1], [2], [], [4], [5], [6], [], [7, 8], [9], [3, 10], [], [12], [13], [14], [11, 15], [], [17], [18], [19], [], [21], [22], [23], [], [24, 25], [26], [20, 27], [], [29], [30], [31], [28, 32], [], []] [aV (.pointer (some ⟨B23, 0, none⟩)),
 aV (.pointer (some ⟨B23, 0, none⟩)),
 aV (.pointer (some ⟨B23, 0, none⟩)),
 aV (.agg #[.slice A48 n48 c48, .slice A49 n49 c49]),
 aV (.pointer (some ⟨B23, 0, none⟩)),
 aV (.pointer (some ⟨B23, 0, none⟩)),
 aV (.pointer (some ⟨B23, 4, none⟩)),
 aV (.slice A52 n52 c52),
 aV (.int .i64 p47),
 aV (elemQ (.slice A52 n52 c52) p47.toNat 1 0),
 aV (.int .i64 x55),
 aX6 (fun (A59 : Option Addr) (n59 c59 : Nat) (A60 : Option Addr) (n60 c60 : Nat) => .agg #[.int .i64 y56.Kind, .int .i64 y56.Shape, .int .i64 y56.Flags, .int .i64 y56.Age, .slice A59 n59 c59, .slice A60 n60 c60]) (fun A59 n59 c59 A60 n60 c60 => [slC rDValue (.slice A59 n59 c59) y56.Slots, slC rDValue (.slice A60 n60 c60) y56.More]),
 aV (.pointer (some ⟨B23, 0, none⟩)),
 aV (.pointer (some ⟨B23, 0, none⟩)),
 aV (.pointer (some ⟨B23, 4, none⟩)),
 aV (.slice A52 n52 c52),
 aX6 (fun (A64 : Option Addr) (n64 c64 : Nat) (A65 : Option Addr) (n65 c65 : Nat) => .agg #[.int .i64 y61.Kind, .int .i64 y61.Shape, .int .i64 y61.Flags, .int .i64 y61.Age, .slice A64 n64 c64, .slice A65 n65 c65]) (fun A64 n64 c64 A65 n65 c65 => [slC rDValue (.slice A64 n64 c64) y61.Slots, slC rDValue (.slice A65 n65 c65) y61.More]),
 aV (.pointer (some ⟨B23, 0, none⟩)),
 aV (.pointer (some ⟨B23, 0, none⟩)),
 aV (.pointer (some ⟨B23, 2, none⟩)),
 aV (.agg #[.slice A50 n50 c50, .slice A51 n51 c51]),
 aV (.pointer (some ⟨B23, 0, none⟩)),
 aV (.pointer (some ⟨B23, 0, none⟩)),
 aV (.pointer (some ⟨B23, 5, none⟩)),
 aV (.slice A53 n53 c53),
 aV (.int .i64 p47),
 aV (elemQ (.slice A53 n53 c53) p47.toNat 1 0),
 aV (.int .i64 x66),
 aX6 (fun (A70 : Option Addr) (n70 c70 : Nat) (A71 : Option Addr) (n71 c71 : Nat) => .agg #[.int .i64 y67.Kind, .int .i64 y67.Shape, .int .i64 y67.Flags, .int .i64 y67.Age, .slice A70 n70 c70, .slice A71 n71 c71]) (fun A70 n70 c70 A71 n71 c71 => [slC rDValue (.slice A70 n70 c70) y67.Slots, slC rDValue (.slice A71 n71 c71) y67.More]),
 aV (.pointer (some ⟨B23, 0, none⟩)),
 aV (.pointer (some ⟨B23, 0, none⟩)),
 aV (.pointer (some ⟨B23, 5, none⟩)),
 aV (.slice A53 n53 c53),
 aX6 (fun (A75 : Option Addr) (n75 c75 : Nat) (A76 : Option Addr) (n76 c76 : Nat) => .agg #[.int .i64 y72.Kind, .int .i64 y72.Shape, .int .i64 y72.Flags, .int .i64 y72.Age, .slice A75 n75 c75, .slice A76 n76 c76]) (fun A75 n75 c75 A76 n76 c76 => [slC rDValue (.slice A75 n75 c75) y72.Slots, slC rDValue (.slice A76 n76 c76) y72.More]),
 aX1 (fun (B78 : Nat) => .pointer (some ⟨B78, 0, none⟩)) (fun B78 => [boxC B78 32 [.int .i64 0, .int .i64 0, .int .i64 0, .int .i64 0, .slice none 0 0, .slice none 0 0]]),
 aX1 (fun (B80 : Nat) => .pointer (some ⟨B80, 0, none⟩)) (fun B80 => [boxC B80 32 [.int .i64 0, .int .i64 0, .int .i64 0, .int .i64 0, .slice none 0 0, .slice none 0 0]])] [] (cv_refl _) (qB_nil) (by kernel_rfl) rfl rfl ?_ ?_ ?_
                · exact qs_nil
                · refine steps_cons rfl ?_ ?_
                  · refine X_op (op_alloc zero32 rfl) rfl ?_
                    rintro _ _ ⟨B79, rfl, rfl⟩
                    exact cvp1 B79 (cv_refl _)
                  refine steps_cons rfl ?_ ?_
                  · refine X_op (op_alloc zero32 rfl) rfl ?_
                    rintro _ _ ⟨B77, rfl, rfl⟩
                    exact cvp1 B77 (cv_refl _)
                  refine steps_cons rfl ?_ ?_
                  · intro A70 n70 c70 A71 n71 c71
                    refine X_op (op_call (reach_cleaned_ok hy72) call72 rfl (cv_take [0, 1, 7] [] [0, 1, 2, 3, 4, 5, 6, 7, 8, 9, 10] 11 rfl)) rfl ?_
                    rintro _ _ ⟨_, ⟨A73, n73, c73, A74, n74, c74, rfl, rfl⟩, rfl⟩
                    exact cvp6 A73 n73 c73 A74 n74 c74 (cv_refl _)
                  refine steps_cons rfl ?_ ?_
                  · exact X_rd (rd_box1 8 rfl rfl one35 rfl) rfl (cvpV rfl (cv_refl _))
                  refine steps_cons rfl ?_ ?_
                  · exact X_ev (ev_fa rfl fa_90_3) rfl (cvpV rfl (cv_refl _))
                  refine steps_cons rfl ?_ ?_
                  · exact X_ev (ev_nilCheck rfl) rfl (cvpV rfl (cv_refl _))
                  refine steps_cons rfl ?_ ?_
                  · exact X_ev (ev_move rfl) rfl (cvpV rfl (cv_refl _))
                  refine steps_cons rfl ?_ ?_
                  · refine X_op (op_call (reach_At_ok hy67) call16 rfl (cv_take [2, 3] [] [0, 1, 2, 3, 4, 5, 6, 7, 8] 9 rfl)) rfl ?_
                    rintro _ _ ⟨_, ⟨A68, n68, c68, A69, n69, c69, rfl, rfl⟩, rfl⟩
                    exact cvp6 A68 n68 c68 A69 n69 c69 ((cv_frz 0 rfl).trans ((cv_frz 1 rfl).trans (cv_refl _)))
                  refine steps_cons rfl ?_ ?_
                  · exact X_rd (rd_elem1 (u := .int .i64 x66) 5 rfl els_sl rfl hx66 one3 (fun _ _ _ h => by rw [show _ = _ from h]; rfl)) rfl (cvpV rfl (cv_refl _))
                  refine steps_cons rfl ?_ ?_
                  · exact X_rd (rd_idx 5 rfl els_sl rfl rfl Tryz.underlying35 size3 lx66 ux66) rfl (cvpV rfl (cv_refl _))
                  refine steps_cons rfl ?_ ?_
                  · exact X_ev (ev_move rfl) rfl (cvpV rfl (cv_refl _))
                  refine steps_cons rfl ?_ ?_
                  · exact X_rd (rd_box1 8 rfl rfl one35 rfl) rfl (cvpV rfl (cv_refl _))
                  refine steps_cons rfl ?_ ?_
                  · exact X_ev (ev_fa rfl fa_90_3) rfl (cvpV rfl (cv_refl _))
                  refine steps_cons rfl ?_ ?_
                  · exact X_ev (ev_nilCheck rfl) rfl (cvpV rfl (cv_refl _))
                  refine steps_cons rfl ?_ ?_
                  · exact X_ev (ev_move rfl) rfl (cvpV rfl (cv_refl _))
                  refine steps_cons rfl ?_ ?_
                  · exact X_rd (rd_boxS (us := [.slice A50 n50 c50, .slice A51 n51 c51]) 8 rfl rfl agg24 rfl) rfl (cvpV rfl (cv_refl _))
                  refine steps_cons rfl ?_ ?_
                  · exact X_ev (ev_fa rfl fa_90_1) rfl (cvpV rfl (cv_refl _))
                  refine steps_cons rfl ?_ ?_
                  · exact X_ev (ev_nilCheck rfl) rfl (cvpV rfl (cv_refl _))
                  refine steps_cons rfl ?_ ?_
                  · exact X_ev (ev_move rfl) rfl (cvpV rfl (cv_refl _))
                  refine steps_cons rfl ?_ ?_
                  · intro A59 n59 c59 A60 n60 c60
                    refine X_op (op_call (reach_cleaned_ok hy61) call72 rfl (cv_take [0, 1, 6] [] [0, 1, 2, 3, 4, 5, 6, 7, 8, 9, 10] 11 rfl)) rfl ?_
                    rintro _ _ ⟨_, ⟨A62, n62, c62, A63, n63, c63, rfl, rfl⟩, rfl⟩
                    exact cvp6 A62 n62 c62 A63 n63 c63 (cv_refl _)
                  refine steps_cons rfl ?_ ?_
                  · exact X_rd (rd_box1 8 rfl rfl one35 rfl) rfl (cvpV rfl (cv_refl _))
                  refine steps_cons rfl ?_ ?_
                  · exact X_ev (ev_fa rfl fa_90_2) rfl (cvpV rfl (cv_refl _))
                  refine steps_cons rfl ?_ ?_
                  · exact X_ev (ev_nilCheck rfl) rfl (cvpV rfl (cv_refl _))
                  refine steps_cons rfl ?_ ?_
                  · exact X_ev (ev_move rfl) rfl (cvpV rfl (cv_refl _))
                  refine steps_cons rfl ?_ ?_
                  · refine X_op (op_call (reach_At_ok hy56) call16 rfl (cv_take [0, 1] [] [0, 1, 2, 3, 4, 5, 6, 7, 8] 9 rfl)) rfl ?_
                    rintro _ _ ⟨_, ⟨A57, n57, c57, A58, n58, c58, rfl, rfl⟩, rfl⟩
                    exact cvp6 A57 n57 c57 A58 n58 c58 ((cv_frz 0 rfl).trans ((cv_frz 1 rfl).trans (cv_refl _)))
                  refine steps_cons rfl ?_ ?_
                  · exact X_rd (rd_elem1 (u := .int .i64 x55) 4 rfl els_sl rfl hx55 one3 (fun _ _ _ h => by rw [show _ = _ from h]; rfl)) rfl (cvpV rfl (cv_refl _))
                  refine steps_cons rfl ?_ ?_
                  · exact X_rd (rd_idx 4 rfl els_sl rfl rfl Tryz.underlying35 size3 lx55 ux55) rfl (cvpV rfl (cv_refl _))
                  refine steps_cons rfl ?_ ?_
                  · exact X_ev (ev_move rfl) rfl (cvpV rfl (cv_refl _))
                  refine steps_cons rfl ?_ ?_
                  · exact X_rd (rd_box1 8 rfl rfl one35 rfl) rfl (cvpV rfl (cv_refl _))
                  refine steps_cons rfl ?_ ?_
                  · exact X_ev (ev_fa rfl fa_90_2) rfl (cvpV rfl (cv_refl _))
                  refine steps_cons rfl ?_ ?_
                  · exact X_ev (ev_nilCheck rfl) rfl (cvpV rfl (cv_refl _))
                  refine steps_cons rfl ?_ ?_
                  · exact X_ev (ev_move rfl) rfl (cvpV rfl (cv_refl _))
                  refine steps_cons rfl ?_ ?_
                  · exact X_rd (rd_boxS (us := [.slice A48 n48 c48, .slice A49 n49 c49]) 8 rfl rfl agg24 rfl) rfl (cvpV rfl (cv_refl _))
                  refine steps_cons rfl ?_ ?_
                  · exact X_ev (ev_fa0 rfl fa_90_0) rfl (cvpV rfl (cv_refl _))
                  refine steps_cons rfl ?_ ?_
                  · exact X_ev (ev_nilCheck rfl) rfl (cvpV rfl (cv_refl _))
                  refine steps_cons rfl ?_ ?_
                  · exact X_ev (ev_move rfl) rfl (cvpV rfl (cv_refl _))
                  exact steps_nil
                · intro A64 n64 c64 A65 n65 c65 A75 n75 c75 A76 n76 c76 B78 B80
                  refine N_sub (t := [(117, .agg #[.int .i64 y61.Kind, .int .i64 y61.Shape, .int .i64 y61.Flags, .int .i64 y61.Age, .slice A64 n64 c64, .slice A65 n65 c65]), (134, .agg #[.int .i64 y72.Kind, .int .i64 y72.Shape, .int .i64 y72.Flags, .int .i64 y72.Age, .slice A75 n75 c75, .slice A76 n76 c76]), (12, .pointer (some ⟨B78, 0, none⟩)), (13, .pointer (some ⟨B80, 0, none⟩)), (8, .bool false), (9, .pointer (some ⟨B23, 0, none⟩)), (11, .int .i64 p47), (97, .int .i64 (y24.length : Int)), (98, .int .i64 p47)]) (L' := [slC rDValue (.slice A64 n64 c64) y61.Slots, slC rDValue (.slice A65 n65 c65) y61.More, slC rDValue (.slice A75 n75 c75) y72.Slots, slC rDValue (.slice A76 n76 c76) y72.More, boxC B78 32 [.int .i64 0, .int .i64 0, .int .i64 0, .int .i64 0, .slice none 0 0, .slice none 0 0], boxC B80 32 [.int .i64 0, .int .i64 0, .int .i64 0, .int .i64 0, .slice none 0 0, .slice none 0 0], slC rDCell (.slice A48 n48 c48) p48, slC rDCell (.slice A49 n49 c49) p49, slC rDCell (.slice A50 n50 c50) p50, slC rDCell (.slice A51 n51 c51) p51, slC (rInt .i64) (.slice A52 n52 c52) p52, slC (rInt .i64) (.slice A53 n53 c53) p53, mapC ekI evI M20 p31, mapC ekI evI M22 p32, boxC B23 90 [.slice A48 n48 c48, .slice A49 n49 c49, .slice A50 n50 c50, .slice A51 n51 c51, .slice A52 n52 c52, .slice A53 n53 c53, .map (some M20), .map (some M22)]]) ?_ subT (cv_refl _)
                  refine N_opn 36 rfl (by kernel_rfl) (op_store (us := [.int .i64 y61.Kind, .int .i64 y61.Shape, .int .i64 y61.Flags, .int .i64 y61.Age, .slice A64 n64 c64, .slice A65 n65 c65]) (cs' := [.int .i64 y61.Kind, .int .i64 y61.Shape, .int .i64 y61.Flags, .int .i64 y61.Age, .slice A64 n64 c64, .slice A65 n65 c65]) 4 rfl rfl rfl rfl size32 rfl rfl rfl) rfl rfl ?_
                  rintro _ _ rfl
                  refine N_norm ([slC rDValue (.slice A64 n64 c64) y61.Slots, slC rDValue (.slice A65 n65 c65) y61.More, slC rDValue (.slice A75 n75 c75) y72.Slots, slC rDValue (.slice A76 n76 c76) y72.More, boxC B78 32 [.int .i64 y61.Kind, .int .i64 y61.Shape, .int .i64 y61.Flags, .int .i64 y61.Age, .slice A64 n64 c64, .slice A65 n65 c65], boxC B80 32 [.int .i64 0, .int .i64 0, .int .i64 0, .int .i64 0, .slice none 0 0, .slice none 0 0], slC rDCell (.slice A48 n48 c48) p48, slC rDCell (.slice A49 n49 c49) p49, slC rDCell (.slice A50 n50 c50) p50, slC rDCell (.slice A51 n51 c51) p51, slC (rInt .i64) (.slice A52 n52 c52) p52, slC (rInt .i64) (.slice A53 n53 c53) p53, mapC ekI evI M20 p31, mapC ekI evI M22 p32, boxC B23 90 [.slice A48 n48 c48, .slice A49 n49 c49, .slice A50 n50 c50, .slice A51 n51 c51, .slice A52 n52 c52, .slice A53 n53 c53, .map (some M20), .map (some M22)]]) rfl ?_
                  refine N_opn 37 rfl (by kernel_rfl) (op_store (us := [.int .i64 y72.Kind, .int .i64 y72.Shape, .int .i64 y72.Flags, .int .i64 y72.Age, .slice A75 n75 c75, .slice A76 n76 c76]) (cs' := [.int .i64 y72.Kind, .int .i64 y72.Shape, .int .i64 y72.Flags, .int .i64 y72.Age, .slice A75 n75 c75, .slice A76 n76 c76]) 5 rfl rfl rfl rfl size32 rfl rfl rfl) rfl rfl ?_
                  rintro _ _ rfl
                  refine N_norm ([slC rDValue (.slice A64 n64 c64) y61.Slots, slC rDValue (.slice A65 n65 c65) y61.More, slC rDValue (.slice A75 n75 c75) y72.Slots, slC rDValue (.slice A76 n76 c76) y72.More, boxC B78 32 [.int .i64 y61.Kind, .int .i64 y61.Shape, .int .i64 y61.Flags, .int .i64 y61.Age, .slice A64 n64 c64, .slice A65 n65 c65], boxC B80 32 [.int .i64 y72.Kind, .int .i64 y72.Shape, .int .i64 y72.Flags, .int .i64 y72.Age, .slice A75 n75 c75, .slice A76 n76 c76], slC rDCell (.slice A48 n48 c48) p48, slC rDCell (.slice A49 n49 c49) p49, slC rDCell (.slice A50 n50 c50) p50, slC rDCell (.slice A51 n51 c51) p51, slC (rInt .i64) (.slice A52 n52 c52) p52, slC (rInt .i64) (.slice A53 n53 c53) p53, mapC ekI evI M20 p31, mapC ekI evI M22 p32, boxC B23 90 [.slice A48 n48 c48, .slice A49 n49 c49, .slice A50 n50 c50, .slice A51 n51 c51, .slice A52 n52 c52, .slice A53 n53 c53, .map (some M20), .map (some M22)]]) rfl ?_
                  refine N_done (by kernel_rfl) ?_
                  refine run ?_
                  obtain ⟨b81, hb81, h⟩ := bind_elim h
                  refine G_segb 6 146 b81 ?_ ?_
                  · clear h
                    refine G_case 140 rfl (fun g81 => ?_) (fun g81 => ?_)
                    · have h := cond_t g81 hb81
                      refine run ?_
                      obtain rfl := Option.some.inj h
                      exact G_joined (sub_cons rfl (sub_skip (sub_skip (sub_skip (sub_skip (sub_skip (sub_skip sub_refl rfl) rfl) rfl) rfl) rfl) rfl)) (cv_sel [0, 1, 2, 3, 4, 5, 6, 7, 8, 9, 10, 11, 12, 13, 14] 15 rfl rfl)
                    · have h := cond_f g81 hb81
                      refine run ?_
                      obtain rfl := Option.some.inj h
                      exact G_joined (sub_cons rfl (sub_skip (sub_skip (sub_skip (sub_skip (sub_skip (sub_skip sub_refl rfl) rfl) rfl) rfl) rfl) rfl)) (cv_sel [0, 1, 2, 3, 4, 5, 6, 7, 8, 9, 10, 11, 12, 13, 14] 15 rfl rfl)
                  refine run ?_
                  obtain ⟨b82, hb82, h⟩ := bind_elim h
                  refine G_segb 6 153 b82 ?_ ?_
                  · clear h
                    refine G_case 147 rfl (fun g82 => ?_) (fun g82 => ?_)
                    · have h := cond_t g82 hb82
                      refine run ?_
                      obtain rfl := Option.some.inj h
                      exact G_joined (sub_cons rfl (sub_skip (sub_skip (sub_skip (sub_skip (sub_skip (sub_skip sub_refl rfl) rfl) rfl) rfl) rfl) rfl)) (cv_sel [0, 1, 2, 3, 4, 5, 6, 7, 8, 9, 10, 11, 12, 13, 14] 15 rfl rfl)
                    · have h := cond_f g82 hb82
                      refine run ?_
                      obtain rfl := Option.some.inj h
                      exact G_joined (sub_cons rfl (sub_skip (sub_skip (sub_skip (sub_skip (sub_skip (sub_skip sub_refl rfl) rfl) rfl) rfl) rfl) rfl)) (cv_sel [0, 1, 2, 3, 4, 5, 6, 7, 8, 9, 10, 11, 12, 13, 14] 15 rfl rfl)
                  refine run ?_
                  obtain ⟨b83, hb83, h⟩ := bind_elim h
                  refine G_segb 8 162 b83 ?_ ?_
                  · clear h
                    refine G_case 154 rfl (fun g83 => ?_) (fun g83 => ?_)
                    · have h := cond_t g83 hb83
                      refine run ?_
                      obtain rfl := Option.some.inj h
                      exact G_joined (sub_cons rfl (sub_skip (sub_skip (sub_skip (sub_skip (sub_skip (sub_skip (sub_skip (sub_skip sub_refl rfl) rfl) rfl) rfl) rfl) rfl) rfl) rfl)) (cv_sel [0, 1, 2, 3, 4, 5, 6, 7, 8, 9, 10, 11, 12, 13, 14] 15 rfl rfl)
                    · have h := cond_f g83 hb83
                      refine run ?_
                      obtain ⟨y84, hy84, h⟩ := bind_elim h
                      refine G_opd (op_callR (reach_twins_values_ok hy84) call71 rfl (mem_cons (lent_box (i := 14) rfl) (mem_cons (lent_ro (i := 6) rfl rfl) (mem_cons (lent_ro (i := 7) rfl rfl) (mem_cons (lent_ro (i := 8) rfl rfl) (mem_cons (lent_ro (i := 9) rfl rfl) (mem_cons (lent_ro (i := 10) rfl rfl) (mem_cons (lent_ro (i := 11) rfl rfl) (mem_cons (lent_map (i := 12) rfl) (mem_cons (lent_map (i := 13) rfl) (mem_cons (lent_ro (i := 0) rfl rfl) (mem_cons (lent_ro (i := 2) rfl rfl) mem_nil))))))))))) reach_twins_values_free) rfl (g_ff g83 rfl) rfl ?_
                      rintro _ _ ⟨_, ⟨rfl, rfl⟩, rfl⟩
                      refine run ?_
                      obtain rfl := Option.some.inj h
                      exact G_joined (sub_cons rfl (sub_skip (sub_skip (sub_skip (sub_skip (sub_skip (sub_skip (sub_skip (sub_skip sub_refl rfl) rfl) rfl) rfl) rfl) rfl) rfl) rfl)) (cv_sel [0, 1, 2, 3, 4, 5, 6, 7, 8, 9, 10, 11, 12, 13, 14] 15 rfl rfl)
                  refine run ?_
                  obtain ⟨b85, hb85, h⟩ := bind_elim h
                  refine G_segb 8 171 b85 ?_ ?_
                  · clear h
                    refine G_case 163 rfl (fun g85 => ?_) (fun g85 => ?_)
                    · have h := cond_t g85 hb85
                      refine run ?_
                      obtain rfl := Option.some.inj h
                      exact G_joined (sub_cons rfl (sub_skip (sub_skip (sub_skip (sub_skip (sub_skip (sub_skip (sub_skip (sub_skip sub_refl rfl) rfl) rfl) rfl) rfl) rfl) rfl) rfl)) (cv_sel [0, 1, 2, 3, 4, 5, 6, 7, 8, 9, 10, 11, 12, 13, 14] 15 rfl rfl)
                    · have h := cond_f g85 hb85
                      refine run ?_
                      obtain ⟨y86, hy86, h⟩ := bind_elim h
                      refine G_opd (op_callR (reach_twins_values_ok hy86) call71 rfl (mem_cons (lent_box (i := 14) rfl) (mem_cons (lent_ro (i := 6) rfl rfl) (mem_cons (lent_ro (i := 7) rfl rfl) (mem_cons (lent_ro (i := 8) rfl rfl) (mem_cons (lent_ro (i := 9) rfl rfl) (mem_cons (lent_ro (i := 10) rfl rfl) (mem_cons (lent_ro (i := 11) rfl rfl) (mem_cons (lent_map (i := 12) rfl) (mem_cons (lent_map (i := 13) rfl) (mem_cons (lent_ro (i := 1) rfl rfl) (mem_cons (lent_ro (i := 3) rfl rfl) mem_nil))))))))))) reach_twins_values_free) rfl (g_ff g85 rfl) rfl ?_
                      rintro _ _ ⟨_, ⟨rfl, rfl⟩, rfl⟩
                      refine run ?_
                      obtain rfl := Option.some.inj h
                      exact G_joined (sub_cons rfl (sub_skip (sub_skip (sub_skip (sub_skip (sub_skip (sub_skip (sub_skip (sub_skip sub_refl rfl) rfl) rfl) rfl) rfl) rfl) rfl) rfl)) (cv_sel [0, 1, 2, 3, 4, 5, 6, 7, 8, 9, 10, 11, 12, 13, 14] 15 rfl rfl)
                  refine run ?_
                  refine G_cond rfl (fun g87 => ?_) (fun g87 => ?_)
                  · replace h := cond_t g87 h
                    refine run ?_
                    obtain rfl := Option.some.inj h
                    exact endG1 rfl rfl (cv_sel [] 15 rfl rfl) ⟨rfl, rfl⟩
                  · replace h := cond_f g87 h
                    refine run ?_
                    obtain ⟨q88, h⟩ := req_elim h
                    refine G_ev (ev_add rfl rfl q88.1 q88.2) rfl rfl rfl ?_
                    refine run ?_
                    exact ⟨m46, _, _, Nat.lt_succ_self _, ⟨p47 + 1, p48, p49, p50, p51, p52, p53, A48, n48, c48, A49, n49, c49, A50, n50, c50, A51, n51, c51, A52, n52, c52, A53, n53, c53, h, rfl, rfl⟩, sub_cons rfl (sub_cons rfl (sub_cons rfl (sub_cons rfl sub_nil))), cv_sel [6, 7, 8, 9, 10, 11, 12, 13, 14] 15 rfl rfl⟩
              · replace h := cond_f g54 h
                refine run ?_
                exact ⟨_, _, ⟨h, rfl, rfl⟩, sub_cons rfl sub_nil, cv_sel [] 9 rfl rfl⟩
            · rintro _ _ ⟨h, rfl, rfl⟩
              refine run ?_
              obtain rfl := Option.some.inj h
              exact endG1 rfl rfl (cv_sel [] 0 rfl rfl) ⟨rfl, rfl⟩
theorem reach_Alike_free {r : Bool} : ∀ v post, ((fun (u : Value) (post : List Chunk) => u = .bool r ∧ post = [])) v post → ∀ c ∈ post, Free c := by
  rintro _ _ ⟨rfl, rfl⟩; exact mem_nil
def pantomimeref19_short_j3 (N : Nat) (p4 : (List DCell)) : Option (List DCell) :=
  some p4
def pantomimeref19_short_j14 (N : Nat) (kb5 : (List DCell) → Int → Option (List DCell)) (p7 : Int) (a0 : (List DCell)) (p6 : (List DCell)) (x9 : DCell) (p15 : (List DValue)) : Option (List DCell) :=
  req (fitsL (p6.length + ([(⟨x9.Kind, x9.Shape, x9.Flags, x9.Age, x9.Slots, p15⟩ : DCell)] : List DCell).length)) (req (in64 (p7 + 1)) (kb5 (p6 ++ ([(⟨x9.Kind, x9.Shape, x9.Flags, x9.Age, x9.Slots, p15⟩ : DCell)] : List DCell)) (p7 + 1)))
def pantomimeref19_short_l5 (N : Nat) (a0 : (List DCell)) : Nat → (List DCell) → Int → Option (List DCell)
  | 0, _, _ => none
  | m5 + 1, p6, p7 => bif decide (p7 < (a0.length : Int)) then ((getE a0 p7).bind fun x9 => (bif decide (x9.Kind = 10) then ((pantomimeref15_Right_O N x9).bind fun y17 => some y17) else (some false)).bind fun b16 => bif b16 then (req ((0 : Int) ≤ 1 ∧ 0 ≤ (1 : Int).toNat ∧ (1 : Int).toNat ≤ x9.More.length) (pantomimeref19_short_j14 N (pantomimeref19_short_l5 N a0 m5) p7 a0 p6 x9 ((x9.More.drop 0).take ((1 : Int).toNat - 0)))) else (pantomimeref19_short_j14 N (pantomimeref19_short_l5 N a0 m5) p7 a0 p6 x9 x9.More)) else (pantomimeref19_short_j3 N p6)
theorem pantomimeref19_short_l5_s {N m5 : Nat} {a0 : (List DCell)} {p6 : (List DCell)} {p7 : Int} : pantomimeref19_short_l5 N a0 (m5 + 1) p6 p7 = bif decide (p7 < (a0.length : Int)) then ((getE a0 p7).bind fun x9 => (bif decide (x9.Kind = 10) then ((pantomimeref15_Right_O N x9).bind fun y17 => some y17) else (some false)).bind fun b16 => bif b16 then (req ((0 : Int) ≤ 1 ∧ 0 ≤ (1 : Int).toNat ∧ (1 : Int).toNat ≤ x9.More.length) (pantomimeref19_short_j14 N (pantomimeref19_short_l5 N a0 m5) p7 a0 p6 x9 ((x9.More.drop 0).take ((1 : Int).toNat - 0)))) else (pantomimeref19_short_j14 N (pantomimeref19_short_l5 N a0 m5) p7 a0 p6 x9 x9.More)) else (pantomimeref19_short_j3 N p6) := rfl
def pantomimeref19_short_O (N : Nat) (a0 : (List DCell)) : Option (List DCell) :=
  pantomimeref19_short_l5 N a0 N ([] : List DCell) 0
theorem pantomimeref19_short_ok {N : Nat} {a0 : (List DCell)} {r : (List DCell)} (h : pantomimeref19_short_O N a0 = some r) {A1 : Option Addr} {n1 c1 : Nat} : Okc Tryz.prog 128 [.slice A1 n1 c1] ([slC rDCell (.slice A1 n1 c1) a0]) (fun (u : Value) (post : List Chunk) => ∃ A0 n0 c0, u = .slice A0 n0 c0 ∧ post = [ownC rDCell 32 (.slice A0 n0 c0) r]) := by
  refine ok_E Tryz.func128 rfl rfl ?_
  simp only [envOf]
  refine run ?_
  refine G_opd (op_bslice (R := rDCell) (vss := []) (xs := []) rfl (bsl_22_0) rfl rfl (fun _ _ hr => All2.nil)) rfl rfl rfl ?_
  rintro _ _ ⟨A2, n2, c2, rfl, rfl⟩
  refine run ?_
  refine G_joinF (fun s L => ∃ (p4 : (List DCell)) (A4 : Option Addr) (n4 c4 : Nat), pantomimeref19_short_j3 N p4 = some r ∧ s = [(2, .slice none 0 0), (3, .slice A4 n4 c4)] ∧ L = [ownC rDCell 32 (.slice A4 n4 c4) p4]) ?_ ?_
  · refine run ?_
    refine G_loopF (fun m s L => ∃ (p6 : (List DCell)) (p7 : Int) (A6 : Option Addr) (n6 c6 : Nat), pantomimeref19_short_l5 N a0 m p6 p7 = some r ∧ s = [(0, .slice A1 n1 c1), (2, .slice none 0 0), (3, .slice A6 n6 c6), (4, .int .i64 p7)] ∧ L = [slC rDCell (.slice A1 n1 c1) a0, ownC rDCell 32 (.slice A6 n6 c6) p6]) N _ _ ⟨([] : List DCell), 0, A2, n2, c2, h, rfl, rfl⟩ (sub_cons rfl (sub_cons rfl (sub_cons rfl (sub_cons rfl sub_nil)))) (cv_sel [1, 0] 2 rfl rfl) ?_
    rintro (_ | m5) _ _ ⟨p6, p7, A6, n6, c6, h, rfl, rfl⟩
    · exact none_some h
    rw [pantomimeref19_short_l5_s] at h
    refine G_seq ?_
    refine run ?_
    refine G_rd (rd_len 0 rfl els_sl rfl Tryz.underlying22) rfl rfl rfl ?_
    refine run ?_
    refine G_cond rfl (fun g8 => ?_) (fun g8 => ?_)
    · replace h := cond_t g8 h
      refine run ?_
      refine G_seq ?_
      refine run ?_
      obtain ⟨x9, hx9, h⟩ := bind_elim h
      obtain ⟨lx9, ux9, hx9⟩ := getE_elim hx9
      refine G_rd (rd_idx 0 rfl els_sl rfl rfl Tryz.underlying22 size32 lx9 ux9) rfl rfl rfl ?_
      refine G_row 0 rfl hx9 (open_DCell x9) ?_
      rintro _ _ ⟨A10, n10, c10, A11, n11, c11, rfl, rfl⟩
      refine G_rd (rd_rowS (us := [.int .i64 x9.Kind, .int .i64 x9.Shape, .int .i64 x9.Flags, .int .i64 x9.Age, .slice A10 n10 c10, .slice A11 n11 c11]) 0 rfl rfl agg32 rfl) rfl rfl rfl ?_
      refine G_opd (op_alloc zero32 rfl) rfl rfl rfl ?_
      rintro _ _ ⟨B13, rfl, rfl⟩
      refine G_opn (op_store (us := [.int .i64 x9.Kind, .int .i64 x9.Shape, .int .i64 x9.Flags, .int .i64 x9.Age, .slice A10 n10 c10, .slice A11 n11 c11]) (cs' := [.int .i64 x9.Kind, .int .i64 x9.Shape, .int .i64 x9.Flags, .int .i64 x9.Age, .slice A10 n10 c10, .slice A11 n11 c11]) 0 rfl rfl rfl rfl size32 rfl rfl rfl) rfl rfl ?_
      rintro _ _ rfl
      refine G_norm ([boxC B13 32 [.int .i64 x9.Kind, .int .i64 x9.Shape, .int .i64 x9.Flags, .int .i64 x9.Age, .slice A10 n10 c10, .slice A11 n11 c11], rowC (elemQ (.slice A1 n1 c1) p7.toNat 6 0) [.int .i64 x9.Kind, .int .i64 x9.Shape, .int .i64 x9.Flags, .int .i64 x9.Age, .slice A10 n10 c10, .slice A11 n11 c11], slC rDValue (.slice A10 n10 c10) x9.Slots, slC rDValue (.slice A11 n11 c11) x9.More, slC rDCell (.slice A1 n1 c1) a0, ownC rDCell 32 (.slice A6 n6 c6) p6]) rfl ?_
      refine run ?_
      refine G_joinF (fun s L => ∃ (p15 : (List DValue)) (A15 : Option Addr) (n15 c15 : Nat), pantomimeref19_short_j14 N (pantomimeref19_short_l5 N a0 m5) p7 a0 p6 x9 p15 = some r ∧ s = [(0, .slice A1 n1 c1), (2, .slice none 0 0), (3, .slice A6 n6 c6), (4, .int .i64 p7), (5, .pointer (some ⟨B13, 0, none⟩))] ∧ L = [slC rDCell (.slice A1 n1 c1) a0, ownC rDCell 32 (.slice A6 n6 c6) p6, slC rDValue (.slice A10 n10 c10) x9.Slots, slC rDValue (.slice A15 n15 c15) p15, boxC B13 32 [.int .i64 x9.Kind, .int .i64 x9.Shape, .int .i64 x9.Flags, .int .i64 x9.Age, .slice A10 n10 c10, .slice A15 n15 c15]]) ?_ ?_
      · refine run ?_
        obtain ⟨b16, hb16, h⟩ := bind_elim h
        refine G_segb 3 23 b16 ?_ ?_
        · clear h
          refine G_case 20 rfl (fun g16 => ?_) (fun g16 => ?_)
          · have h := cond_t g16 hb16
            refine G_rd (rd_boxS (us := [.int .i64 x9.Kind, .int .i64 x9.Shape, .int .i64 x9.Flags, .int .i64 x9.Age, .slice A10 n10 c10, .slice A11 n11 c11]) 0 rfl rfl agg32 rfl) rfl (g_tt g16 rfl) rfl ?_
            obtain ⟨y17, hy17, h⟩ := bind_elim h
            refine G_opd (op_callR (pantomimeref15_Right_ok hy17) call92 rfl (mem_cons (lent_ro (i := 2) rfl rfl) (mem_cons (lent_ro (i := 3) rfl rfl) mem_nil)) pantomimeref15_Right_free) rfl (g_tt g16 rfl) rfl ?_
            rintro _ _ ⟨_, ⟨rfl, rfl⟩, rfl⟩
            refine run ?_
            obtain rfl := Option.some.inj h
            exact G_joined (sub_cons rfl (sub_skip (sub_skip (sub_skip sub_refl rfl) rfl) rfl)) (cv_sel [0, 1, 2, 3, 4, 5] 6 rfl rfl)
          · have h := cond_f g16 hb16
            refine run ?_
            obtain rfl := Option.some.inj h
            exact G_joined (sub_cons rfl (sub_skip (sub_skip (sub_skip sub_refl rfl) rfl) rfl)) (cv_sel [0, 1, 2, 3, 4, 5] 6 rfl rfl)
        refine run ?_
        refine G_cond rfl (fun g18 => ?_) (fun g18 => ?_)
        · replace h := cond_t g18 h
          refine run ?_
          obtain ⟨q19, h⟩ := req_elim h
          refine G_cut 3 rfl (l := 0) (h := (1 : Int).toNat) q19.2.1 q19.2.2 ?_
          rintro A20 n20 c20 e20
          refine G_rd (rd_cut 4 rfl e20 rfl Tryz.underlying25 size38 rfl rfl (by rw [Int.toNat_of_nonneg q19.1]; rfl) q19.2.1 q19.2.2) rfl rfl rfl ?_
          refine run ?_
          refine G_opn (op_store (us := [.slice A20 n20 c20]) (cs' := [.int .i64 x9.Kind, .int .i64 x9.Shape, .int .i64 x9.Flags, .int .i64 x9.Age, .slice A10 n10 c10, .slice A20 n20 c20]) 1 rfl rfl rfl rfl size25 rfl rfl rfl) rfl rfl ?_
          rintro _ _ rfl
          refine G_norm ([slC rDValue (.slice A20 n20 c20) ((x9.More.drop 0).take ((1 : Int).toNat - 0)), boxC B13 32 [.int .i64 x9.Kind, .int .i64 x9.Shape, .int .i64 x9.Flags, .int .i64 x9.Age, .slice A10 n10 c10, .slice A20 n20 c20], rowC (elemQ (.slice A1 n1 c1) p7.toNat 6 0) [.int .i64 x9.Kind, .int .i64 x9.Shape, .int .i64 x9.Flags, .int .i64 x9.Age, .slice A10 n10 c10, .slice A11 n11 c11], slC rDValue (.slice A10 n10 c10) x9.Slots, slC rDValue (.slice A11 n11 c11) x9.More, slC rDCell (.slice A1 n1 c1) a0, ownC rDCell 32 (.slice A6 n6 c6) p6]) rfl ?_
          refine run ?_
          exact ⟨_, _, ⟨(x9.More.drop 0).take ((1 : Int).toNat - 0), A20, n20, c20, h, rfl, rfl⟩, sub_cons rfl (sub_cons rfl (sub_cons rfl (sub_cons rfl (sub_cons rfl sub_nil)))), cv_sel [5, 6, 3, 0, 1] 7 rfl rfl⟩
        · replace h := cond_f g18 h
          refine run ?_
          exact ⟨_, _, ⟨x9.More, A11, n11, c11, h, rfl, rfl⟩, sub_cons rfl (sub_cons rfl (sub_cons rfl (sub_cons rfl (sub_cons rfl sub_nil)))), cv_sel [4, 5, 2, 3, 0] 6 rfl rfl⟩
      · rintro _ _ ⟨p15, A15, n15, c15, h, rfl, rfl⟩
        refine run ?_
        refine G_rd (rd_boxS (us := [.int .i64 x9.Kind, .int .i64 x9.Shape, .int .i64 x9.Flags, .int .i64 x9.Age, .slice A10 n10 c10, .slice A15 n15 c15]) 4 rfl rfl agg32 rfl) rfl rfl rfl ?_
        refine G_opd (op_bslice (R := rDCell) (vss := [[.int .i64 x9.Kind, .int .i64 x9.Shape, .int .i64 x9.Flags, .int .i64 x9.Age, .slice A10 n10 c10, .slice A15 n15 c15]]) (xs := [(⟨x9.Kind, x9.Shape, x9.Flags, x9.Age, x9.Slots, p15⟩ : DCell)]) rfl (bsl_22_1 _ _ _ _ _ _ _ _ _ _) rfl rfl (fun _ _ hr => .cons (⟨_, _, _, _, _, _, rfl, hr 2 _ rfl rfl, hr 3 _ rfl rfl⟩) All2.nil)) rfl rfl rfl ?_
        rintro _ _ ⟨A21, n21, c21, rfl, rfl⟩
        obtain ⟨q22, h⟩ := req_elim h
        refine G_opd (op_append 2 0 rfl rfl els_own rfl rfl Tryz.underlying22 zb32 rfl rfl q22) rfl rfl rfl ?_
        rintro _ _ ⟨A23, n23, c23, rfl, rfl⟩
        refine G_norm ([ownC rDCell 32 (.slice A21 n21 c21) ([(⟨x9.Kind, x9.Shape, x9.Flags, x9.Age, x9.Slots, p15⟩ : DCell)] : List DCell), slC rDCell (.slice A1 n1 c1) a0, ownC rDCell 32 (.slice A23 n23 c23) (p6 ++ ([(⟨x9.Kind, x9.Shape, x9.Flags, x9.Age, x9.Slots, p15⟩ : DCell)] : List DCell)), slC rDValue (.slice A10 n10 c10) x9.Slots, slC rDValue (.slice A15 n15 c15) p15, boxC B13 32 [.int .i64 x9.Kind, .int .i64 x9.Shape, .int .i64 x9.Flags, .int .i64 x9.Age, .slice A10 n10 c10, .slice A15 n15 c15]]) rfl ?_
        refine run ?_
        obtain ⟨q24, h⟩ := req_elim h
        refine G_ev (ev_add rfl rfl q24.1 q24.2) rfl rfl rfl ?_
        refine run ?_
        exact ⟨m5, _, _, Nat.lt_succ_self _, ⟨p6 ++ ([(⟨x9.Kind, x9.Shape, x9.Flags, x9.Age, x9.Slots, p15⟩ : DCell)] : List DCell), p7 + 1, A23, n23, c23, h, rfl, rfl⟩, sub_cons rfl (sub_cons rfl (sub_cons rfl (sub_cons rfl sub_nil))), cv_sel [1, 2] 6 rfl rfl⟩
    · replace h := cond_f g8 h
      refine run ?_
      exact ⟨_, _, ⟨p6, A6, n6, c6, h, rfl, rfl⟩, sub_cons rfl (sub_cons rfl sub_nil), cv_sel [1] 2 rfl rfl⟩
  · rintro _ _ ⟨p4, A4, n4, c4, h, rfl, rfl⟩
    refine run ?_
    obtain rfl := Option.some.inj h
    exact endG1 rfl rfl (cv_sel [0] 1 rfl rfl) ⟨_, _, _, rfl, rfl⟩
def pantomimeref19_side_O (N : Nat) (a0 : DMemory) (a1 : (List DValue)) : Option DSide :=
  (pantomimeref19_short_O N a0.Young).bind fun y6 => (pantomimeref19_short_O N a0.Old).bind fun y9 => (pantomimeref19_Order_O N (⟨y6, y9⟩ : DMemory) a1).bind fun y11 => some (⟨(⟨y6, y9⟩ : DMemory), y11⟩ : DSide)
theorem pantomimeref19_side_ok {N : Nat} {a0 : DMemory} {a1 : (List DValue)} {r : DSide} (h : pantomimeref19_side_O N a0 a1 = some r) {A1 : Option Addr} {n1 c1 : Nat} {A2 : Option Addr} {n2 c2 : Nat} {A3 : Option Addr} {n3 c3 : Nat} : Okc Tryz.prog 73 [.agg #[.slice A1 n1 c1, .slice A2 n2 c2], .slice A3 n3 c3] ([slC rDCell (.slice A1 n1 c1) a0.Young, slC rDCell (.slice A2 n2 c2) a0.Old, slC rDValue (.slice A3 n3 c3) a1]) (fun (u : Value) (post : List Chunk) => ∃ A0 n0 c0 A1 n1 c1 A2 n2 c2, u = .agg #[.slice A0 n0 c0, .slice A1 n1 c1, .slice A2 n2 c2] ∧ post = [ownC rDCell 32 (.slice A0 n0 c0) r.M.Young, ownC rDCell 32 (.slice A1 n1 c1) r.M.Old, ownC (rInt .i64) 3 (.slice A2 n2 c2) r.Order]) := by
  refine ok_E Tryz.func73 rfl rfl ?_
  simp only [envOf]
  refine run ?_
  refine G_opd (op_box rfl rfl) rfl rfl rfl ?_
  rintro _ _ ⟨B4, rfl, rfl⟩
  refine G_opd (op_alloc zero93 rfl) rfl rfl rfl ?_
  rintro _ _ ⟨B5, rfl, rfl⟩
  refine run ?_
  refine G_seq ?_
  obtain ⟨y6, hy6, h⟩ := bind_elim h
  refine G_sub (t := [(1, .slice A3 n3 c3), (2, .pointer (some ⟨B4, 0, none⟩)), (4, .pointer (some ⟨B5, 0, none⟩))]) ?_ subT (cv_refl _)
  refine G_monoX (by kernel_rfl) 5 [] [2, 4] [5, 6, 7, 8, 9] [[], [0], [1], [], [3]] [aV (.pointer (some ⟨B4, 0, none⟩)),
 aV (.slice A1 n1 c1),
 aX3 (fun (A8 : Option Addr) (n8 c8 : Nat) => .slice A8 n8 c8) (fun A8 n8 c8 => [ownC rDCell 32 (.slice A8 n8 c8) y6]),
 aV (.pointer (some ⟨B4, 1, none⟩)),
 aV (.slice A2 n2 c2)] [] (cv_refl _) (qB_nil) (by kernel_rfl) rfl rfl ?_ ?_ ?_
  · exact qs_nil
  · refine steps_cons rfl ?_ ?_
    · exact X_rd (rd_box1 1 rfl rfl one22 rfl) rfl (cvpV rfl (cv_refl _))
    refine steps_cons rfl ?_ ?_
    · exact X_ev (ev_fa rfl fa_24_1) rfl (cvpV rfl (cv_refl _))
    refine steps_cons rfl ?_ ?_
    · refine X_op (op_call (pantomimeref19_short_ok hy6) call128 rfl (cv_take [2] [] [0, 1, 2, 3, 4] 5 rfl)) rfl ?_
      rintro _ _ ⟨_, ⟨A7, n7, c7, rfl, rfl⟩, rfl⟩
      exact cvp3 A7 n7 c7 (cv_refl _)
    refine steps_cons rfl ?_ ?_
    · exact X_rd (rd_box1 1 rfl rfl one22 rfl) rfl (cvpV rfl (cv_refl _))
    refine steps_cons rfl ?_ ?_
    · exact X_ev (ev_fa0 rfl fa_24_0) rfl (cvpV rfl (cv_refl _))
    exact steps_nil
  · intro A8 n8 c8
    refine N_sub (t := [(7, .slice A8 n8 c8), (9, .slice A2 n2 c2), (1, .slice A3 n3 c3), (2, .pointer (some ⟨B4, 0, none⟩)), (4, .pointer (some ⟨B5, 0, none⟩))]) (L' := [ownC rDCell 32 (.slice A8 n8 c8) y6, boxC B5 93 [.slice none 0 0, .slice none 0 0, .slice none 0 0], boxC B4 24 [.slice A1 n1 c1, .slice A2 n2 c2], slC rDCell (.slice A1 n1 c1) a0.Young, slC rDCell (.slice A2 n2 c2) a0.Old, slC rDValue (.slice A3 n3 c3) a1]) ?_ subT (cv_refl _)
    obtain ⟨y9, hy9, h⟩ := bind_elim h
    refine N_opd 5 rfl (by kernel_rfl) (op_call (pantomimeref19_short_ok hy9) call128 rfl (cv_take [4] [] [0, 1, 2, 3, 4, 5] 6 rfl)) rfl rfl rfl ?_
    rintro _ _ ⟨_, ⟨A10, n10, c10, rfl, rfl⟩, rfl⟩
    refine N_norm ([ownC rDCell 32 (.slice A10 n10 c10) y9, ownC rDCell 32 (.slice A8 n8 c8) y6, boxC B5 93 [.slice none 0 0, .slice none 0 0, .slice none 0 0], boxC B4 24 [.slice A1 n1 c1, .slice A2 n2 c2], slC rDCell (.slice A1 n1 c1) a0.Young, slC rDCell (.slice A2 n2 c2) a0.Old, slC rDValue (.slice A3 n3 c3) a1]) rfl ?_
    refine N_ev 6 rfl (by kernel_rfl) (ev_build rfl (bld_24_0_1 _ _ _ _ _ _)) rfl rfl rfl ?_
    refine N_opn 7 rfl (by kernel_rfl) (op_store (us := [.slice A8 n8 c8, .slice A10 n10 c10]) (cs' := [.slice A8 n8 c8, .slice A10 n10 c10]) 3 rfl rfl rfl rfl size24 rfl rfl rfl) rfl rfl ?_
    rintro _ _ rfl
    refine N_norm ([ownC rDCell 32 (.slice A10 n10 c10) y9, ownC rDCell 32 (.slice A8 n8 c8) y6, boxC B5 93 [.slice none 0 0, .slice none 0 0, .slice none 0 0], boxC B4 24 [.slice A8 n8 c8, .slice A10 n10 c10], slC rDCell (.slice A1 n1 c1) a0.Young, slC rDCell (.slice A2 n2 c2) a0.Old, slC rDValue (.slice A3 n3 c3) a1]) rfl ?_
    refine N_done (by kernel_rfl) ?_
    refine nx_n ?_
    refine G_seq ?_
    refine G_drawn (by kernel_rfl) ([ownC rDCell 32 (.slice A10 n10 c10) y9, ownC rDCell 32 (.slice A8 n8 c8) y6, boxC B4 24 [.slice A8 n8 c8, .slice A10 n10 c10], slC rDCell (.slice A1 n1 c1) a0.Young, slC rDCell (.slice A2 n2 c2) a0.Old, slC rDValue (.slice A3 n3 c3) a1]) (cv_sel [0, 1, 3, 4, 5, 6] 7 rfl rfl) ?_
    refine T3_rd 0 rfl (by kernel_rfl) (rd_boxS (us := [.slice A8 n8 c8, .slice A10 n10 c10]) 2 rfl rfl agg24 rfl) rfl rfl ?_
    refine T3_rd 1 rfl (by kernel_rfl) (rd_boxS (us := [.slice A8 n8 c8, .slice A10 n10 c10]) 2 rfl rfl agg24 rfl) rfl rfl ?_
    refine T3_ev 2 rfl (by kernel_rfl) (ev_move rfl) rfl rfl ?_
    obtain ⟨y11, hy11, h⟩ := bind_elim h
    refine T3_opd 3 rfl (by kernel_rfl) (op_callR (pantomimeref19_Order_ok hy11) call26 rfl (mem_cons (lent_own (i := 1) rfl) (mem_cons (lent_own (i := 0) rfl) (mem_cons (lent_ro (i := 6) rfl rfl) mem_nil))) pantomimeref19_Order_free) rfl rfl rfl ?_
    rintro _ _ ⟨_, ⟨A12, n12, c12, rfl, rfl⟩, rfl⟩
    refine ⟨[ownC rDCell 32 (.slice A10 n10 c10) y9, ownC rDCell 32 (.slice A8 n8 c8) y6, boxC B4 24 [.slice A8 n8 c8, .slice A10 n10 c10], slC rDCell (.slice A1 n1 c1) a0.Young, slC rDCell (.slice A2 n2 c2) a0.Old, slC rDValue (.slice A3 n3 c3) a1], cv_sel [1, 2, 4, 5, 6, 7] 8 rfl rfl, cv_refl _, ?_⟩
    refine T3_ev 4 rfl (by kernel_rfl) (ev_build rfl (bld_93_0_1 _ _ _ _ _ _ _ _ _)) rfl rfl ?_
    refine T3_opn 5 rfl (by kernel_rfl) (op_store (us := [.slice A8 n8 c8, .slice A10 n10 c10, .slice A12 n12 c12]) (cs' := [.slice A8 n8 c8, .slice A10 n10 c10, .slice A12 n12 c12]) 3 rfl rfl rfl rfl size93 rfl rfl rfl) rfl rfl ?_
    rintro _ _ rfl
    refine ⟨[ownC rDCell 32 (.slice A10 n10 c10) y9, ownC rDCell 32 (.slice A8 n8 c8) y6, boxC B4 24 [.slice A8 n8 c8, .slice A10 n10 c10], slC rDCell (.slice A1 n1 c1) a0.Young, slC rDCell (.slice A2 n2 c2) a0.Old, slC rDValue (.slice A3 n3 c3) a1], cv_sel [1, 2, 4, 5, 6, 7] 8 rfl rfl, cv_refl _, ?_⟩
    refine T3_norm ([ownC (rInt .i64) 3 (.slice A12 n12 c12) y11, ownC rDCell 32 (.slice A10 n10 c10) y9, ownC rDCell 32 (.slice A8 n8 c8) y6, boxC B5 93 [.slice A8 n8 c8, .slice A10 n10 c10, .slice A12 n12 c12], boxC B4 24 [.slice A8 n8 c8, .slice A10 n10 c10], slC rDCell (.slice A1 n1 c1) a0.Young, slC rDCell (.slice A2 n2 c2) a0.Old, slC rDValue (.slice A3 n3 c3) a1]) rfl ?_
    refine T3_done (by kernel_rfl) ?_
    refine run ?_
    obtain rfl := Option.some.inj h
    exact endGl (rs := [.cell 4 93]) (vs := [.agg #[.slice A8 n8 c8, .slice A10 n10 c10, .slice A12 n12 c12]]) rfl (.cons (rv_boxS 3 rfl rfl agg93) .nil) rfl (cv_sel [2, 1, 0] 8 rfl rfl) ⟨_, _, _, _, _, _, _, _, _, rfl, rfl⟩
def pantomimeref19_place_j2 (N : Nat) : Option Int :=
  some (-1)
def pantomimeref19_place_l3 (N : Nat) (a1 : Int) (a0 : (List Int)) : Nat → Int → Option Int
  | 0, _ => none
  | m3 + 1, p4 => bif decide (p4 < (a0.length : Int)) then ((getE a0 p4).bind fun x6 => bif decide (x6 = a1) then (some p4) else (req (in64 (p4 + 1)) ((pantomimeref19_place_l3 N a1 a0 m3) (p4 + 1)))) else (pantomimeref19_place_j2 N)
theorem pantomimeref19_place_l3_s {N m3 : Nat} {a1 : Int} {a0 : (List Int)} {p4 : Int} : pantomimeref19_place_l3 N a1 a0 (m3 + 1) p4 = bif decide (p4 < (a0.length : Int)) then ((getE a0 p4).bind fun x6 => bif decide (x6 = a1) then (some p4) else (req (in64 (p4 + 1)) ((pantomimeref19_place_l3 N a1 a0 m3) (p4 + 1)))) else (pantomimeref19_place_j2 N) := rfl
def pantomimeref19_place_O (N : Nat) (a0 : (List Int)) (a1 : Int) : Option Int :=
  pantomimeref19_place_l3 N a1 a0 N 0
theorem pantomimeref19_place_ok {N : Nat} {a0 : (List Int)} {a1 : Int} {r : Int} (h : pantomimeref19_place_O N a0 a1 = some r) {A1 : Option Addr} {n1 c1 : Nat} : Okc Tryz.prog 129 [.slice A1 n1 c1, .int .i64 a1] ([slC (rInt .i64) (.slice A1 n1 c1) a0]) (fun (u : Value) (post : List Chunk) => u = .int .i64 r ∧ post = []) := by
  refine ok_E Tryz.func129 rfl rfl ?_
  simp only [envOf]
  refine run ?_
  refine G_joinF (fun s L => pantomimeref19_place_j2 N = some r ∧ s = [(4, .int .i64 0)] ∧ L = []) ?_ ?_
  · refine run ?_
    refine G_loopF (fun m s L => ∃ (p4 : Int), pantomimeref19_place_l3 N a1 a0 m p4 = some r ∧ s = [(0, .slice A1 n1 c1), (1, .int .i64 a1), (4, .int .i64 0), (5, .int .i64 p4)] ∧ L = [slC (rInt .i64) (.slice A1 n1 c1) a0]) N _ _ ⟨0, h, rfl, rfl⟩ (sub_cons rfl (sub_cons rfl (sub_cons rfl (sub_cons rfl sub_nil)))) (cv_sel [0] 1 rfl rfl) ?_
    rintro (_ | m3) _ _ ⟨p4, h, rfl, rfl⟩
    · exact none_some h
    rw [pantomimeref19_place_l3_s] at h
    refine G_seq ?_
    refine run ?_
    refine G_rd (rd_len 0 rfl els_sl rfl Tryz.underlying35) rfl rfl rfl ?_
    refine run ?_
    refine G_cond rfl (fun g5 => ?_) (fun g5 => ?_)
    · replace h := cond_t g5 h
      refine run ?_
      refine G_seq ?_
      refine run ?_
      obtain ⟨x6, hx6, h⟩ := bind_elim h
      obtain ⟨lx6, ux6, hx6⟩ := getE_elim hx6
      refine G_rd (rd_idx 0 rfl els_sl rfl rfl Tryz.underlying35 size3 lx6 ux6) rfl rfl rfl ?_
      refine G_rd (rd_elem1 (u := .int .i64 x6) 0 rfl els_sl rfl hx6 one3 (fun _ _ _ h => by rw [show _ = _ from h]; rfl)) rfl rfl rfl ?_
      refine run ?_
      refine G_cond rfl (fun g7 => ?_) (fun g7 => ?_)
      · replace h := cond_t g7 h
        refine run ?_
        obtain rfl := Option.some.inj h
        exact endG1 rfl rfl (cv_sel [] 1 rfl rfl) ⟨rfl, rfl⟩
      · replace h := cond_f g7 h
        refine run ?_
        obtain ⟨q8, h⟩ := req_elim h
        refine G_ev (ev_add rfl rfl q8.1 q8.2) rfl rfl rfl ?_
        refine run ?_
        exact ⟨m3, _, _, Nat.lt_succ_self _, ⟨p4 + 1, h, rfl, rfl⟩, sub_cons rfl (sub_cons rfl (sub_cons rfl (sub_cons rfl sub_nil))), cv_sel [0] 1 rfl rfl⟩
    · replace h := cond_f g5 h
      refine run ?_
      exact ⟨_, _, ⟨h, rfl, rfl⟩, sub_cons rfl sub_nil, cv_sel [] 1 rfl rfl⟩
  · rintro _ _ ⟨h, rfl, rfl⟩
    refine run ?_
    obtain rfl := Option.some.inj h
    exact endG1 rfl rfl (cv_sel [] 0 rfl rfl) ⟨rfl, rfl⟩
theorem pantomimeref19_place_free {r : Int} : ∀ v post, ((fun (u : Value) (post : List Chunk) => u = .int .i64 r ∧ post = [])) v post → ∀ c ∈ post, Free c := by
  rintro _ _ ⟨rfl, rfl⟩; exact mem_nil
def pantomimeref19_values_j12 (N : Nat) : Option Bool :=
  some true
def pantomimeref19_values_l13 (N : Nat) (a1 : (List DValue)) (a3 : (List DValue)) (a0 : DSide) (a2 : DSide) : Nat → Int → Option Bool
  | 0, _ => none
  | m13 + 1, p14 => bif decide (p14 < (a1.length : Int)) then ((getE a1 p14).bind fun x16 => (bif decide (x16.Kind = 7) then (some true) else ((getE a1 p14).bind fun x18 => some (decide (x18.Kind = 9)))).bind fun b17 => (bif !b17 then ((getE a1 p14).bind fun x20 => (getE a3 p14).bind fun x21 => some (!decide (x20 = x21))) else (some false)).bind fun b19 => bif b19 then (some false) else ((bif b17 then ((getE a1 p14).bind fun x24 => (getE a3 p14).bind fun x25 => (bif !decide (x24.Kind = x25.Kind) then (some true) else ((getE a1 p14).bind fun x27 => (getE a3 p14).bind fun x28 => some (!(x27.S.toList == x28.S.toList)))).bind fun b26 => (bif b26 then (some true) else ((getE a1 p14).bind fun x30 => (getE a3 p14).bind fun x31 => (pantomimeref19_Has_O N a0.M x30.N).bind fun y32 => (pantomimeref19_Has_O N a2.M x31.N).bind fun y33 => some (!(y32 == y33)))).bind fun b29 => some b29) else (some false)).bind fun b23 => bif b23 then (some false) else ((bif b17 then ((getE a1 p14).bind fun x36 => (pantomimeref19_Has_O N a0.M x36.N).bind fun y37 => some y37) else (some false)).bind fun b35 => (bif b35 then ((getE a1 p14).bind fun x39 => (getE a3 p14).bind fun x40 => (pantomimeref19_place_O N a0.Order x39.N).bind fun y41 => (pantomimeref19_place_O N a2.Order x40.N).bind fun y42 => some (!decide (y41 = y42))) else (some false)).bind fun b38 => bif b38 then (some false) else (req (in64 (p14 + 1)) ((pantomimeref19_values_l13 N a1 a3 a0 a2 m13) (p14 + 1)))))) else (pantomimeref19_values_j12 N)
theorem pantomimeref19_values_l13_s {N m13 : Nat} {a1 : (List DValue)} {a3 : (List DValue)} {a0 : DSide} {a2 : DSide} {p14 : Int} : pantomimeref19_values_l13 N a1 a3 a0 a2 (m13 + 1) p14 = bif decide (p14 < (a1.length : Int)) then ((getE a1 p14).bind fun x16 => (bif decide (x16.Kind = 7) then (some true) else ((getE a1 p14).bind fun x18 => some (decide (x18.Kind = 9)))).bind fun b17 => (bif !b17 then ((getE a1 p14).bind fun x20 => (getE a3 p14).bind fun x21 => some (!decide (x20 = x21))) else (some false)).bind fun b19 => bif b19 then (some false) else ((bif b17 then ((getE a1 p14).bind fun x24 => (getE a3 p14).bind fun x25 => (bif !decide (x24.Kind = x25.Kind) then (some true) else ((getE a1 p14).bind fun x27 => (getE a3 p14).bind fun x28 => some (!(x27.S.toList == x28.S.toList)))).bind fun b26 => (bif b26 then (some true) else ((getE a1 p14).bind fun x30 => (getE a3 p14).bind fun x31 => (pantomimeref19_Has_O N a0.M x30.N).bind fun y32 => (pantomimeref19_Has_O N a2.M x31.N).bind fun y33 => some (!(y32 == y33)))).bind fun b29 => some b29) else (some false)).bind fun b23 => bif b23 then (some false) else ((bif b17 then ((getE a1 p14).bind fun x36 => (pantomimeref19_Has_O N a0.M x36.N).bind fun y37 => some y37) else (some false)).bind fun b35 => (bif b35 then ((getE a1 p14).bind fun x39 => (getE a3 p14).bind fun x40 => (pantomimeref19_place_O N a0.Order x39.N).bind fun y41 => (pantomimeref19_place_O N a2.Order x40.N).bind fun y42 => some (!decide (y41 = y42))) else (some false)).bind fun b38 => bif b38 then (some false) else (req (in64 (p14 + 1)) ((pantomimeref19_values_l13 N a1 a3 a0 a2 m13) (p14 + 1)))))) else (pantomimeref19_values_j12 N) := rfl
def pantomimeref19_values_O (N : Nat) (a0 : DSide) (a1 : (List DValue)) (a2 : DSide) (a3 : (List DValue)) : Option Bool :=
  bif !decide ((a1.length : Int) = (a3.length : Int)) then (some false) else (pantomimeref19_values_l13 N a1 a3 a0 a2 N 0)
set_option maxHeartbeats 4000000 in
theorem pantomimeref19_values_ok {N : Nat} {a0 : DSide} {a1 : (List DValue)} {a2 : DSide} {a3 : (List DValue)} {r : Bool} (h : pantomimeref19_values_O N a0 a1 a2 a3 = some r) {A1 : Option Addr} {n1 c1 : Nat} {A2 : Option Addr} {n2 c2 : Nat} {A3 : Option Addr} {n3 c3 : Nat} {A4 : Option Addr} {n4 c4 : Nat} {A5 : Option Addr} {n5 c5 : Nat} {A6 : Option Addr} {n6 c6 : Nat} {A7 : Option Addr} {n7 c7 : Nat} {A8 : Option Addr} {n8 c8 : Nat} : Okc Tryz.prog 74 [.agg #[.slice A1 n1 c1, .slice A2 n2 c2, .slice A3 n3 c3], .slice A4 n4 c4, .agg #[.slice A5 n5 c5, .slice A6 n6 c6, .slice A7 n7 c7], .slice A8 n8 c8] ([slC rDCell (.slice A1 n1 c1) a0.M.Young, slC rDCell (.slice A2 n2 c2) a0.M.Old, slC (rInt .i64) (.slice A3 n3 c3) a0.Order, slC rDValue (.slice A4 n4 c4) a1, slC rDCell (.slice A5 n5 c5) a2.M.Young, slC rDCell (.slice A6 n6 c6) a2.M.Old, slC (rInt .i64) (.slice A7 n7 c7) a2.Order, slC rDValue (.slice A8 n8 c8) a3]) (fun (u : Value) (post : List Chunk) => u = .bool r ∧ post = []) := by
  refine ok_E Tryz.func74 rfl rfl ?_
  simp only [envOf]
  refine run ?_
  refine G_opd (op_box rfl rfl) rfl rfl rfl ?_
  rintro _ _ ⟨B9, rfl, rfl⟩
  refine G_opd (op_box rfl rfl) rfl rfl rfl ?_
  rintro _ _ ⟨B10, rfl, rfl⟩
  refine run ?_
  refine G_seq ?_
  refine run ?_
  refine G_rd (rd_len 5 rfl els_sl rfl Tryz.underlying25) rfl rfl rfl ?_
  refine run ?_
  refine G_rd (rd_len 9 rfl els_sl rfl Tryz.underlying25) rfl rfl rfl ?_
  refine run ?_
  refine G_cond rfl (fun g11 => ?_) (fun g11 => ?_)
  · replace h := cond_t g11 h
    refine run ?_
    obtain rfl := Option.some.inj h
    exact endG1 rfl rfl (cv_sel [] 10 rfl rfl) ⟨rfl, rfl⟩
  · replace h := cond_f g11 h
    refine run ?_
    refine G_joinF (fun s L => pantomimeref19_values_j12 N = some r ∧ s = [(8, .bool false)] ∧ L = []) ?_ ?_
    · refine run ?_
      refine G_loopF (fun m s L => ∃ (p14 : Int), pantomimeref19_values_l13 N a1 a3 a0 a2 m p14 = some r ∧ s = [(1, .slice A4 n4 c4), (3, .slice A8 n8 c8), (4, .pointer (some ⟨B9, 0, none⟩)), (6, .pointer (some ⟨B10, 0, none⟩)), (8, .bool false), (9, .int .i64 p14)] ∧ L = [slC rDValue (.slice A4 n4 c4) a1, slC rDValue (.slice A8 n8 c8) a3, slC rDCell (.slice A1 n1 c1) a0.M.Young, slC rDCell (.slice A2 n2 c2) a0.M.Old, slC (rInt .i64) (.slice A3 n3 c3) a0.Order, boxC B9 93 [.slice A1 n1 c1, .slice A2 n2 c2, .slice A3 n3 c3], slC rDCell (.slice A5 n5 c5) a2.M.Young, slC rDCell (.slice A6 n6 c6) a2.M.Old, slC (rInt .i64) (.slice A7 n7 c7) a2.Order, boxC B10 93 [.slice A5 n5 c5, .slice A6 n6 c6, .slice A7 n7 c7]]) N _ _ ⟨0, h, rfl, rfl⟩ (sub_cons rfl (sub_cons rfl (sub_cons rfl (sub_cons rfl (sub_cons rfl (sub_cons rfl sub_nil)))))) (cv_sel [5, 9, 2, 3, 4, 1, 6, 7, 8, 0] 10 rfl rfl) ?_
      rintro (_ | m13) _ _ ⟨p14, h, rfl, rfl⟩
      · exact none_some h
      rw [pantomimeref19_values_l13_s] at h
      refine G_seq ?_
      refine run ?_
      refine G_rd (rd_len 0 rfl els_sl rfl Tryz.underlying25) rfl rfl rfl ?_
      refine run ?_
      refine G_cond rfl (fun g15 => ?_) (fun g15 => ?_)
      · replace h := cond_t g15 h
        refine run ?_
        refine G_seq ?_
        refine run ?_
        obtain ⟨x16, hx16, h⟩ := bind_elim h
        obtain ⟨lx16, ux16, hx16⟩ := getE_elim hx16
        refine G_rd (rd_idx 0 rfl els_sl rfl rfl Tryz.underlying25 size38 lx16 ux16) rfl rfl rfl ?_
        refine G_rd (rd_fa0 0 rfl els_sl rfl (toNat_lt lx16 ux16) fa_38_0) rfl rfl rfl ?_
        refine G_rd (rd_elem1 (u := .int .i64 x16.Kind) 0 rfl els_sl rfl hx16 one3 (fun _ _ _ h => by rw [show _ = _ from h]; rfl)) rfl rfl rfl ?_
        refine run ?_
        obtain ⟨b17, hb17, h⟩ := bind_elim h
        refine G_segb 7 35 b17 ?_ ?_
        · clear h
          refine G_case 28 rfl (fun g17 => ?_) (fun g17 => ?_)
          · have h := cond_t g17 hb17
            refine run ?_
            obtain rfl := Option.some.inj h
            exact G_joined (sub_cons rfl (sub_skip (sub_skip (sub_skip (sub_skip (sub_skip (sub_skip (sub_skip sub_refl rfl) rfl) rfl) rfl) rfl) rfl) rfl)) (cv_sel [0, 1, 2, 3, 4, 5, 6, 7, 8, 9] 10 rfl rfl)
          · have h := cond_f g17 hb17
            refine run ?_
            obtain ⟨x18, hx18, h⟩ := bind_elim h
            obtain ⟨lx18, ux18, hx18⟩ := getE_elim hx18
            refine G_rd (rd_idx 0 rfl els_sl rfl rfl Tryz.underlying25 size38 lx18 ux18) rfl (g_ff g17 rfl) rfl ?_
            refine G_rd (rd_fa0 0 rfl els_sl rfl (toNat_lt lx18 ux18) fa_38_0) rfl (g_ff g17 rfl) rfl ?_
            refine G_rd (rd_elem1 (u := .int .i64 x18.Kind) 0 rfl els_sl rfl hx18 one3 (fun _ _ _ h => by rw [show _ = _ from h]; rfl)) rfl (g_ff g17 rfl) rfl ?_
            refine run ?_
            obtain rfl := Option.some.inj h
            exact G_joined (sub_cons rfl (sub_skip (sub_skip (sub_skip (sub_skip (sub_skip (sub_skip (sub_skip sub_refl rfl) rfl) rfl) rfl) rfl) rfl) rfl)) (cv_sel [0, 1, 2, 3, 4, 5, 6, 7, 8, 9] 10 rfl rfl)
        refine run ?_
        refine G_seq ?_
        refine G_seq ?_
        refine G_drawn (by kernel_rfl) _ (cv_refl _) ?_
        refine T3_ev 0 rfl (by kernel_rfl) (ev_move rfl) rfl rfl ?_
        refine T3_ev 1 rfl (by kernel_rfl) (ev_not rfl) rfl rfl ?_
        refine T3_ev 2 rfl (by kernel_rfl) (ev_move rfl) rfl rfl ?_
        obtain ⟨b19, hb19, h⟩ := bind_elim h
        refine T3_joinB (fun l => ((((((((((l.setIfInBounds 3 true).setIfInBounds 4 true).setIfInBounds 5 true).setIfInBounds 6 true).setIfInBounds 7 true).setIfInBounds 8 true).setIfInBounds 9 true).setIfInBounds 10 true).setIfInBounds 11 true).setIfInBounds 12 true)) 0 48 b19 (fun rest => ?_) ?_
        · clear h
          refine T3_case 38 rfl (fun g19 => ?_) (fun g19 => ?_)
          · have h := cond_t g19 hb19
            refine T3_ev 3 rfl (by kernel_rfl) (ev_move rfl) (g_tt g19 rfl) rfl ?_
            refine T3_ev 4 rfl (by kernel_rfl) (ev_move rfl) (g_tt g19 rfl) rfl ?_
            obtain ⟨x20, hx20, h⟩ := bind_elim h
            obtain ⟨lx20, ux20, hx20⟩ := getE_elim hx20
            refine T3_rd 5 rfl (by kernel_rfl) (rd_idx 0 rfl els_sl rfl rfl Tryz.underlying25 size38 lx20 ux20) (g_tt g19 rfl) rfl ?_
            refine T3_rd 6 rfl (by kernel_rfl) (rd_elemS (us := [.int .i64 x20.Kind, .int .i64 x20.N, .string x20.S]) 0 rfl els_sl rfl hx20 agg38 (fun _ _ _ h => by rw [show _ = _ from h]; rfl)) (g_tt g19 rfl) rfl ?_
            refine T3_ev 7 rfl (by kernel_rfl) (ev_move rfl) (g_tt g19 rfl) rfl ?_
            refine T3_ev 8 rfl (by kernel_rfl) (ev_move rfl) (g_tt g19 rfl) rfl ?_
            obtain ⟨x21, hx21, h⟩ := bind_elim h
            obtain ⟨lx21, ux21, hx21⟩ := getE_elim hx21
            refine T3_rd 9 rfl (by kernel_rfl) (rd_idx 1 rfl els_sl rfl rfl Tryz.underlying25 size38 lx21 ux21) (g_tt g19 rfl) rfl ?_
            refine T3_rd 10 rfl (by kernel_rfl) (rd_elemS (us := [.int .i64 x21.Kind, .int .i64 x21.N, .string x21.S]) 1 rfl els_sl rfl hx21 agg38 (fun _ _ _ h => by rw [show _ = _ from h]; rfl)) (g_tt g19 rfl) rfl ?_
            refine T3_ev 11 rfl (by kernel_rfl) (ev_seqn38 (x := x20) (y := x21) rfl rfl) (g_tt g19 rfl) rfl ?_
            refine T3_ev 12 rfl (by kernel_rfl) (ev_pick_t' g19 rfl rfl) rfl rfl ?_
            obtain rfl := Option.some.inj h
            exact T3_sub rest (sub_cons rfl (sub_skip (sub_skip (sub_skip (sub_skip (sub_skip (sub_skip (sub_skip (sub_skip (sub_skip (sub_skip sub_refl rfl) rfl) rfl) rfl) rfl) rfl) rfl) rfl) rfl) rfl)) (cv_refl _) (cv_refl _)
          · have h := cond_f g19 hb19
            refine T3_no 3 rfl (by kernel_rfl) (g_tf g19 rfl) rfl ?_
            refine T3_no 4 rfl (by kernel_rfl) (g_tf g19 rfl) rfl ?_
            refine T3_no 5 rfl (by kernel_rfl) (g_tf g19 rfl) rfl ?_
            refine T3_no 6 rfl (by kernel_rfl) (g_tf g19 rfl) rfl ?_
            refine T3_no 7 rfl (by kernel_rfl) (g_tf g19 rfl) rfl ?_
            refine T3_no 8 rfl (by kernel_rfl) (g_tf g19 rfl) rfl ?_
            refine T3_no 9 rfl (by kernel_rfl) (g_tf g19 rfl) rfl ?_
            refine T3_no 10 rfl (by kernel_rfl) (g_tf g19 rfl) rfl ?_
            refine T3_no 11 rfl (by kernel_rfl) (g_tf g19 rfl) rfl ?_
            refine T3_ev 12 rfl (by kernel_rfl) (ev_pick_f' g19 rfl rfl) rfl rfl ?_
            obtain rfl := Option.some.inj h
            exact T3_sub rest (sub_cons rfl (sub_skip (sub_skip (sub_skip (sub_skip (sub_skip (sub_skip (sub_skip (sub_skip (sub_skip (sub_skip sub_refl rfl) rfl) rfl) rfl) rfl) rfl) rfl) rfl) rfl) rfl)) (cv_refl _) (cv_refl _)
        refine T3_done (by kernel_rfl) ?_
        refine nx_n ?_
        refine G_cond rfl (fun g22 => ?_) (fun g22 => ?_)
        · replace h := cond_t g22 h
          refine run ?_
          obtain rfl := Option.some.inj h
          exact endG1 rfl rfl (cv_sel [] 10 rfl rfl) ⟨rfl, rfl⟩
        · replace h := cond_f g22 h
          refine run ?_
          refine G_seq ?_
          refine G_seq ?_
          refine G_drawn (by kernel_rfl) _ (cv_refl _) ?_
          refine T3_ev 0 rfl (by kernel_rfl) (ev_move rfl) rfl rfl ?_
          refine T3_ev 1 rfl (by kernel_rfl) (ev_move rfl) rfl rfl ?_
          obtain ⟨b23, hb23, h⟩ := bind_elim h
          refine T3_joinB (fun l => ((((((((((((((((((((((((((((((((((((((((((((l.setIfInBounds 2 true).setIfInBounds 3 true).setIfInBounds 4 true).setIfInBounds 5 true).setIfInBounds 6 true).setIfInBounds 7 true).setIfInBounds 8 true).setIfInBounds 9 true).setIfInBounds 10 true).setIfInBounds 11 true).setIfInBounds 12 true).setIfInBounds 13 true).setIfInBounds 14 true).setIfInBounds 15 true).setIfInBounds 16 true).setIfInBounds 17 true).setIfInBounds 18 true).setIfInBounds 19 true).setIfInBounds 20 true).setIfInBounds 21 true).setIfInBounds 22 true).setIfInBounds 23 true).setIfInBounds 24 true).setIfInBounds 25 true).setIfInBounds 26 true).setIfInBounds 27 true).setIfInBounds 28 true).setIfInBounds 29 true).setIfInBounds 30 true).setIfInBounds 31 true).setIfInBounds 32 true).setIfInBounds 33 true).setIfInBounds 35 true).setIfInBounds 36 true).setIfInBounds 37 true).setIfInBounds 38 true).setIfInBounds 39 true).setIfInBounds 40 true).setIfInBounds 41 true).setIfInBounds 34 true).setIfInBounds 42 true).setIfInBounds 43 true).setIfInBounds 44 true).setIfInBounds 45 true)) 0 94 b23 (fun rest => ?_) ?_
          · clear h
            refine T3_case 50 rfl (fun g23 => ?_) (fun g23 => ?_)
            · have h := cond_t g23 hb23
              refine T3_ev 2 rfl (by kernel_rfl) (ev_move rfl) (g_tt g23 rfl) rfl ?_
              refine T3_ev 3 rfl (by kernel_rfl) (ev_move rfl) (g_tt g23 rfl) rfl ?_
              obtain ⟨x24, hx24, h⟩ := bind_elim h
              obtain ⟨lx24, ux24, hx24⟩ := getE_elim hx24
              refine T3_rd 4 rfl (by kernel_rfl) (rd_idx 0 rfl els_sl rfl rfl Tryz.underlying25 size38 lx24 ux24) (g_tt g23 rfl) rfl ?_
              refine T3_rd 5 rfl (by kernel_rfl) (rd_fa0 0 rfl els_sl rfl (toNat_lt lx24 ux24) fa_38_0) (g_tt g23 rfl) rfl ?_
              refine T3_rd 6 rfl (by kernel_rfl) (rd_elem1 (u := .int .i64 x24.Kind) 0 rfl els_sl rfl hx24 one3 (fun _ _ _ h => by rw [show _ = _ from h]; rfl)) (g_tt g23 rfl) rfl ?_
              refine T3_ev 7 rfl (by kernel_rfl) (ev_move rfl) (g_tt g23 rfl) rfl ?_
              refine T3_ev 8 rfl (by kernel_rfl) (ev_move rfl) (g_tt g23 rfl) rfl ?_
              obtain ⟨x25, hx25, h⟩ := bind_elim h
              obtain ⟨lx25, ux25, hx25⟩ := getE_elim hx25
              refine T3_rd 9 rfl (by kernel_rfl) (rd_idx 1 rfl els_sl rfl rfl Tryz.underlying25 size38 lx25 ux25) (g_tt g23 rfl) rfl ?_
              refine T3_rd 10 rfl (by kernel_rfl) (rd_fa0 1 rfl els_sl rfl (toNat_lt lx25 ux25) fa_38_0) (g_tt g23 rfl) rfl ?_
              refine T3_rd 11 rfl (by kernel_rfl) (rd_elem1 (u := .int .i64 x25.Kind) 1 rfl els_sl rfl hx25 one3 (fun _ _ _ h => by rw [show _ = _ from h]; rfl)) (g_tt g23 rfl) rfl ?_
              refine T3_ev 12 rfl (by kernel_rfl) (ev_ne rfl rfl) (g_tt g23 rfl) rfl ?_
              refine T3_ev 13 rfl (by kernel_rfl) (ev_move rfl) (g_tt g23 rfl) rfl ?_
              obtain ⟨b26, hb26, h⟩ := bind_elim h
              refine T3_joinB (fun l => ((((((((((((l.setIfInBounds 14 true).setIfInBounds 15 true).setIfInBounds 16 true).setIfInBounds 17 true).setIfInBounds 18 true).setIfInBounds 19 true).setIfInBounds 20 true).setIfInBounds 21 true).setIfInBounds 22 true).setIfInBounds 23 true).setIfInBounds 24 true).setIfInBounds 25 true)) 20 74 b26 (fun rest => ?_) ?_
              · clear h
                refine T3_case 62 rfl (fun g26 => ?_) (fun g26 => ?_)
                · have h := cond_t g26 hb26
                  refine T3_no 14 rfl (by kernel_rfl) (g_ft g26 rfl) rfl ?_
                  refine T3_no 15 rfl (by kernel_rfl) (g_ft g26 rfl) rfl ?_
                  refine T3_no 16 rfl (by kernel_rfl) (g_ft g26 rfl) rfl ?_
                  refine T3_no 17 rfl (by kernel_rfl) (g_ft g26 rfl) rfl ?_
                  refine T3_no 18 rfl (by kernel_rfl) (g_ft g26 rfl) rfl ?_
                  refine T3_no 19 rfl (by kernel_rfl) (g_ft g26 rfl) rfl ?_
                  refine T3_no 20 rfl (by kernel_rfl) (g_ft g26 rfl) rfl ?_
                  refine T3_no 21 rfl (by kernel_rfl) (g_ft g26 rfl) rfl ?_
                  refine T3_no 22 rfl (by kernel_rfl) (g_ft g26 rfl) rfl ?_
                  refine T3_no 23 rfl (by kernel_rfl) (g_ft g26 rfl) rfl ?_
                  refine T3_no 24 rfl (by kernel_rfl) (g_ft g26 rfl) rfl ?_
                  refine T3_ev 25 rfl (by kernel_rfl) (ev_pick_t' g26 rfl rfl) (g_tt g23 rfl) rfl ?_
                  obtain rfl := Option.some.inj h
                  exact T3_sub rest (sub_cons rfl (sub_skip (sub_skip (sub_skip (sub_skip (sub_skip (sub_skip (sub_skip (sub_skip (sub_skip (sub_skip (sub_skip (sub_skip sub_refl rfl) rfl) rfl) rfl) rfl) rfl) rfl) rfl) rfl) rfl) rfl) rfl)) (cv_refl _) (cv_refl _)
                · have h := cond_f g26 hb26
                  refine T3_ev 14 rfl (by kernel_rfl) (ev_move rfl) (g_ff g26 rfl) rfl ?_
                  refine T3_ev 15 rfl (by kernel_rfl) (ev_move rfl) (g_ff g26 rfl) rfl ?_
                  obtain ⟨x27, hx27, h⟩ := bind_elim h
                  obtain ⟨lx27, ux27, hx27⟩ := getE_elim hx27
                  refine T3_rd 16 rfl (by kernel_rfl) (rd_idx 0 rfl els_sl rfl rfl Tryz.underlying25 size38 lx27 ux27) (g_ff g26 rfl) rfl ?_
                  refine T3_rd 17 rfl (by kernel_rfl) (rd_fa 0 rfl els_sl rfl (toNat_lt lx27 ux27) fa_38_2) (g_ff g26 rfl) rfl ?_
                  refine T3_rd 18 rfl (by kernel_rfl) (rd_elem1 (u := .string x27.S) 0 rfl els_sl rfl hx27 one9 (fun _ _ _ h => by rw [show _ = _ from h]; rfl)) (g_ff g26 rfl) rfl ?_
                  refine T3_ev 19 rfl (by kernel_rfl) (ev_move rfl) (g_ff g26 rfl) rfl ?_
                  refine T3_ev 20 rfl (by kernel_rfl) (ev_move rfl) (g_ff g26 rfl) rfl ?_
                  obtain ⟨x28, hx28, h⟩ := bind_elim h
                  obtain ⟨lx28, ux28, hx28⟩ := getE_elim hx28
                  refine T3_rd 21 rfl (by kernel_rfl) (rd_idx 1 rfl els_sl rfl rfl Tryz.underlying25 size38 lx28 ux28) (g_ff g26 rfl) rfl ?_
                  refine T3_rd 22 rfl (by kernel_rfl) (rd_fa 1 rfl els_sl rfl (toNat_lt lx28 ux28) fa_38_2) (g_ff g26 rfl) rfl ?_
                  refine T3_rd 23 rfl (by kernel_rfl) (rd_elem1 (u := .string x28.S) 1 rfl els_sl rfl hx28 one9 (fun _ _ _ h => by rw [show _ = _ from h]; rfl)) (g_ff g26 rfl) rfl ?_
                  refine T3_ev 24 rfl (by kernel_rfl) (ev_strne rfl rfl) (g_ff g26 rfl) rfl ?_
                  refine T3_ev 25 rfl (by kernel_rfl) (ev_pick_f' g26 rfl rfl) (g_tt g23 rfl) rfl ?_
                  obtain rfl := Option.some.inj h
                  exact T3_sub rest (sub_cons rfl (sub_skip (sub_skip (sub_skip (sub_skip (sub_skip (sub_skip (sub_skip (sub_skip (sub_skip (sub_skip (sub_skip (sub_skip sub_refl rfl) rfl) rfl) rfl) rfl) rfl) rfl) rfl) rfl) rfl) rfl) rfl)) (cv_refl _) (cv_refl _)
              refine T3_ev 26 rfl (by kernel_rfl) (ev_move rfl) (g_tt g23 rfl) rfl ?_
              obtain ⟨b29, hb29, h⟩ := bind_elim h
              refine T3_joinB (fun l => ((((((((((((((((((l.setIfInBounds 27 true).setIfInBounds 28 true).setIfInBounds 29 true).setIfInBounds 30 true).setIfInBounds 31 true).setIfInBounds 32 true).setIfInBounds 33 true).setIfInBounds 35 true).setIfInBounds 36 true).setIfInBounds 37 true).setIfInBounds 38 true).setIfInBounds 39 true).setIfInBounds 40 true).setIfInBounds 41 true).setIfInBounds 34 true).setIfInBounds 42 true).setIfInBounds 43 true).setIfInBounds 44 true)) 1 93 b29 (fun rest => ?_) ?_
              · clear h
                refine T3_case 75 rfl (fun g29 => ?_) (fun g29 => ?_)
                · have h := cond_t g29 hb29
                  refine T3_no 27 rfl (by kernel_rfl) (g_ft g29 rfl) rfl ?_
                  refine T3_no 28 rfl (by kernel_rfl) (g_ft g29 rfl) rfl ?_
                  refine T3_no 29 rfl (by kernel_rfl) (g_ft g29 rfl) rfl ?_
                  refine T3_no 30 rfl (by kernel_rfl) (g_ft g29 rfl) rfl ?_
                  refine T3_no 31 rfl (by kernel_rfl) (g_ft g29 rfl) rfl ?_
                  refine T3_no 32 rfl (by kernel_rfl) (g_ft g29 rfl) rfl ?_
                  refine T3_no 33 rfl (by kernel_rfl) (g_ft g29 rfl) rfl ?_
                  refine T3_no 35 rfl (by kernel_rfl) (g_ft g29 rfl) rfl ?_
                  refine T3_no 36 rfl (by kernel_rfl) (g_ft g29 rfl) rfl ?_
                  refine T3_no 37 rfl (by kernel_rfl) (g_ft g29 rfl) rfl ?_
                  refine T3_no 38 rfl (by kernel_rfl) (g_ft g29 rfl) rfl ?_
                  refine T3_no 39 rfl (by kernel_rfl) (g_ft g29 rfl) rfl ?_
                  refine T3_no 40 rfl (by kernel_rfl) (g_ft g29 rfl) rfl ?_
                  refine T3_no 41 rfl (by kernel_rfl) (g_ft g29 rfl) rfl ?_
                  refine T3_no 34 rfl (by kernel_rfl) (g_ft g29 rfl) rfl ?_
                  refine T3_no 42 rfl (by kernel_rfl) (g_ft g29 rfl) rfl ?_
                  refine T3_no 43 rfl (by kernel_rfl) (g_ft g29 rfl) rfl ?_
                  refine T3_ev 44 rfl (by kernel_rfl) (ev_pick_t' g29 rfl rfl) (g_tt g23 rfl) rfl ?_
                  obtain rfl := Option.some.inj h
                  exact T3_sub rest (sub_cons rfl (sub_skip (sub_skip (sub_skip (sub_skip (sub_skip (sub_skip (sub_skip (sub_skip (sub_skip (sub_skip (sub_skip (sub_skip (sub_skip (sub_skip (sub_skip (sub_skip (sub_skip (sub_skip sub_refl rfl) rfl) rfl) rfl) rfl) rfl) rfl) rfl) rfl) rfl) rfl) rfl) rfl) rfl) rfl) rfl) rfl) rfl)) (cv_refl _) (cv_refl _)
                · have h := cond_f g29 hb29
                  refine T3_ev 27 rfl (by kernel_rfl) (ev_fa0 rfl fa_93_0) (g_ff g29 rfl) rfl ?_
                  refine T3_rd 28 rfl (by kernel_rfl) (rd_boxS (us := [.slice A1 n1 c1, .slice A2 n2 c2]) 5 rfl rfl agg24 rfl) (g_ff g29 rfl) rfl ?_
                  refine T3_ev 29 rfl (by kernel_rfl) (ev_move rfl) (g_ff g29 rfl) rfl ?_
                  refine T3_ev 30 rfl (by kernel_rfl) (ev_move rfl) (g_ff g29 rfl) rfl ?_
                  obtain ⟨x30, hx30, h⟩ := bind_elim h
                  obtain ⟨lx30, ux30, hx30⟩ := getE_elim hx30
                  refine T3_rd 31 rfl (by kernel_rfl) (rd_idx 0 rfl els_sl rfl rfl Tryz.underlying25 size38 lx30 ux30) (g_ff g29 rfl) rfl ?_
                  refine T3_rd 32 rfl (by kernel_rfl) (rd_fa 0 rfl els_sl rfl (toNat_lt lx30 ux30) fa_38_1) (g_ff g29 rfl) rfl ?_
                  refine T3_rd 33 rfl (by kernel_rfl) (rd_elem1 (u := .int .i64 x30.N) 0 rfl els_sl rfl hx30 one3 (fun _ _ _ h => by rw [show _ = _ from h]; rfl)) (g_ff g29 rfl) rfl ?_
                  refine T3_ev 35 rfl (by kernel_rfl) (ev_fa0 rfl fa_93_0) (g_ff g29 rfl) rfl ?_
                  refine T3_rd 36 rfl (by kernel_rfl) (rd_boxS (us := [.slice A5 n5 c5, .slice A6 n6 c6]) 9 rfl rfl agg24 rfl) (g_ff g29 rfl) rfl ?_
                  refine T3_ev 37 rfl (by kernel_rfl) (ev_move rfl) (g_ff g29 rfl) rfl ?_
                  refine T3_ev 38 rfl (by kernel_rfl) (ev_move rfl) (g_ff g29 rfl) rfl ?_
                  obtain ⟨x31, hx31, h⟩ := bind_elim h
                  obtain ⟨lx31, ux31, hx31⟩ := getE_elim hx31
                  refine T3_rd 39 rfl (by kernel_rfl) (rd_idx 1 rfl els_sl rfl rfl Tryz.underlying25 size38 lx31 ux31) (g_ff g29 rfl) rfl ?_
                  refine T3_rd 40 rfl (by kernel_rfl) (rd_fa 1 rfl els_sl rfl (toNat_lt lx31 ux31) fa_38_1) (g_ff g29 rfl) rfl ?_
                  refine T3_rd 41 rfl (by kernel_rfl) (rd_elem1 (u := .int .i64 x31.N) 1 rfl els_sl rfl hx31 one3 (fun _ _ _ h => by rw [show _ = _ from h]; rfl)) (g_ff g29 rfl) rfl ?_
                  obtain ⟨y32, hy32, h⟩ := bind_elim h
                  refine T3_opd 34 rfl (by kernel_rfl) (op_callR (pantomimeref19_Has_ok hy32) call14 rfl (mem_cons (lent_ro (i := 2) rfl rfl) (mem_cons (lent_ro (i := 3) rfl rfl) mem_nil)) pantomimeref19_Has_free) rfl (g_ff g29 rfl) rfl ?_
                  rintro _ _ ⟨_, ⟨rfl, rfl⟩, rfl⟩
                  refine ⟨_, cv_refl _, cv_refl _, ?_⟩
                  obtain ⟨y33, hy33, h⟩ := bind_elim h
                  refine T3_opd 42 rfl (by kernel_rfl) (op_callR (pantomimeref19_Has_ok hy33) call14 rfl (mem_cons (lent_ro (i := 6) rfl rfl) (mem_cons (lent_ro (i := 7) rfl rfl) mem_nil)) pantomimeref19_Has_free) rfl (g_ff g29 rfl) rfl ?_
                  rintro _ _ ⟨_, ⟨rfl, rfl⟩, rfl⟩
                  refine ⟨_, cv_refl _, cv_refl _, ?_⟩
                  refine T3_ev 43 rfl (by kernel_rfl) (ev_bne rfl rfl Tryz.underlying4) (g_ff g29 rfl) rfl ?_
                  refine T3_ev 44 rfl (by kernel_rfl) (ev_pick_f' g29 rfl rfl) (g_tt g23 rfl) rfl ?_
                  obtain rfl := Option.some.inj h
                  exact T3_sub rest (sub_cons rfl (sub_skip (sub_skip (sub_skip (sub_skip (sub_skip (sub_skip (sub_skip (sub_skip (sub_skip (sub_skip (sub_skip (sub_skip (sub_skip (sub_skip (sub_skip (sub_skip (sub_skip (sub_skip sub_refl rfl) rfl) rfl) rfl) rfl) rfl) rfl) rfl) rfl) rfl) rfl) rfl) rfl) rfl) rfl) rfl) rfl) rfl)) (cv_refl _) (cv_refl _)
              refine T3_ev 45 rfl (by kernel_rfl) (ev_pick_t' g23 rfl rfl) rfl rfl ?_
              obtain rfl := Option.some.inj h
              exact T3_sub rest (sub_cons rfl (sub_skip (sub_skip (sub_skip (sub_skip (sub_skip (sub_skip (sub_skip (sub_skip (sub_skip (sub_skip (sub_skip (sub_skip (sub_skip (sub_skip (sub_skip (sub_skip sub_refl rfl) rfl) rfl) rfl) rfl) rfl) rfl) rfl) rfl) rfl) rfl) rfl) rfl) rfl) rfl) rfl)) (cv_refl _) (cv_refl _)
            · have h := cond_f g23 hb23
              refine T3_no 2 rfl (by kernel_rfl) (g_tf g23 rfl) rfl ?_
              refine T3_no 3 rfl (by kernel_rfl) (g_tf g23 rfl) rfl ?_
              refine T3_no 4 rfl (by kernel_rfl) (g_tf g23 rfl) rfl ?_
              refine T3_no 5 rfl (by kernel_rfl) (g_tf g23 rfl) rfl ?_
              refine T3_no 6 rfl (by kernel_rfl) (g_tf g23 rfl) rfl ?_
              refine T3_no 7 rfl (by kernel_rfl) (g_tf g23 rfl) rfl ?_
              refine T3_no 8 rfl (by kernel_rfl) (g_tf g23 rfl) rfl ?_
              refine T3_no 9 rfl (by kernel_rfl) (g_tf g23 rfl) rfl ?_
              refine T3_no 10 rfl (by kernel_rfl) (g_tf g23 rfl) rfl ?_
              refine T3_no 11 rfl (by kernel_rfl) (g_tf g23 rfl) rfl ?_
              refine T3_no 12 rfl (by kernel_rfl) (g_tf g23 rfl) rfl ?_
              refine T3_no 13 rfl (by kernel_rfl) (g_tf g23 rfl) rfl ?_
              refine T3_no 14 rfl (by kernel_rfl) rfl rfl ?_
              refine T3_no 15 rfl (by kernel_rfl) rfl rfl ?_
              refine T3_no 16 rfl (by kernel_rfl) rfl rfl ?_
              refine T3_no 17 rfl (by kernel_rfl) rfl rfl ?_
              refine T3_no 18 rfl (by kernel_rfl) rfl rfl ?_
              refine T3_no 19 rfl (by kernel_rfl) rfl rfl ?_
              refine T3_no 20 rfl (by kernel_rfl) rfl rfl ?_
              refine T3_no 21 rfl (by kernel_rfl) rfl rfl ?_
              refine T3_no 22 rfl (by kernel_rfl) rfl rfl ?_
              refine T3_no 23 rfl (by kernel_rfl) rfl rfl ?_
              refine T3_no 24 rfl (by kernel_rfl) rfl rfl ?_
              refine T3_no 25 rfl (by kernel_rfl) (g_tf g23 rfl) rfl ?_
              refine T3_no 26 rfl (by kernel_rfl) (g_tf g23 rfl) rfl ?_
              refine T3_no 27 rfl (by kernel_rfl) rfl rfl ?_
              refine T3_no 28 rfl (by kernel_rfl) rfl rfl ?_
              refine T3_no 29 rfl (by kernel_rfl) rfl rfl ?_
              refine T3_no 30 rfl (by kernel_rfl) rfl rfl ?_
              refine T3_no 31 rfl (by kernel_rfl) rfl rfl ?_
              refine T3_no 32 rfl (by kernel_rfl) rfl rfl ?_
              refine T3_no 33 rfl (by kernel_rfl) rfl rfl ?_
              refine T3_no 35 rfl (by kernel_rfl) rfl rfl ?_
              refine T3_no 36 rfl (by kernel_rfl) rfl rfl ?_
              refine T3_no 37 rfl (by kernel_rfl) rfl rfl ?_
              refine T3_no 38 rfl (by kernel_rfl) rfl rfl ?_
              refine T3_no 39 rfl (by kernel_rfl) rfl rfl ?_
              refine T3_no 40 rfl (by kernel_rfl) rfl rfl ?_
              refine T3_no 41 rfl (by kernel_rfl) rfl rfl ?_
              refine T3_no 34 rfl (by kernel_rfl) rfl rfl ?_
              refine T3_no 42 rfl (by kernel_rfl) rfl rfl ?_
              refine T3_no 43 rfl (by kernel_rfl) rfl rfl ?_
              refine T3_no 44 rfl (by kernel_rfl) (g_tf g23 rfl) rfl ?_
              refine T3_ev 45 rfl (by kernel_rfl) (ev_pick_f' g23 rfl rfl) rfl rfl ?_
              obtain rfl := Option.some.inj h
              exact T3_sub rest (sub_cons rfl (sub_skip (sub_skip (sub_skip (sub_skip (sub_skip (sub_skip (sub_skip (sub_skip (sub_skip (sub_skip (sub_skip (sub_skip (sub_skip (sub_skip (sub_skip (sub_skip (sub_skip (sub_skip (sub_skip (sub_skip (sub_skip (sub_skip (sub_skip (sub_skip (sub_skip (sub_skip (sub_skip (sub_skip (sub_skip (sub_skip (sub_skip (sub_skip (sub_skip (sub_skip (sub_skip (sub_skip (sub_skip (sub_skip (sub_skip (sub_skip (sub_skip (sub_skip (sub_skip (sub_skip sub_refl rfl) rfl) rfl) rfl) rfl) rfl) rfl) rfl) rfl) rfl) rfl) rfl) rfl) rfl) rfl) rfl) rfl) rfl) rfl) rfl) rfl) rfl) rfl) rfl) rfl) rfl) rfl) rfl) rfl) rfl) rfl) rfl) rfl) rfl) rfl) rfl) rfl) rfl) rfl) rfl) rfl) rfl) rfl) rfl)) (cv_refl _) (cv_refl _)
          refine T3_done (by kernel_rfl) ?_
          refine nx_n ?_
          refine G_cond rfl (fun g34 => ?_) (fun g34 => ?_)
          · replace h := cond_t g34 h
            refine run ?_
            obtain rfl := Option.some.inj h
            exact endG1 rfl rfl (cv_sel [] 10 rfl rfl) ⟨rfl, rfl⟩
          · replace h := cond_f g34 h
            refine run ?_
            refine G_seq ?_
            refine G_drawn (by kernel_rfl) _ (cv_refl _) ?_
            refine T3_ev 0 rfl (by kernel_rfl) (ev_move rfl) rfl rfl ?_
            refine T3_ev 1 rfl (by kernel_rfl) (ev_move rfl) rfl rfl ?_
            obtain ⟨b35, hb35, h⟩ := bind_elim h
            refine T3_joinB (fun l => (((((((((l.setIfInBounds 2 true).setIfInBounds 3 true).setIfInBounds 4 true).setIfInBounds 5 true).setIfInBounds 6 true).setIfInBounds 7 true).setIfInBounds 8 true).setIfInBounds 9 true).setIfInBounds 10 true)) 19 105 b35 (fun rest => ?_) ?_
            · clear h
              refine T3_case 96 rfl (fun g35 => ?_) (fun g35 => ?_)
              · have h := cond_t g35 hb35
                refine T3_ev 2 rfl (by kernel_rfl) (ev_fa0 rfl fa_93_0) (g_tt g35 rfl) rfl ?_
                refine T3_rd 3 rfl (by kernel_rfl) (rd_boxS (us := [.slice A1 n1 c1, .slice A2 n2 c2]) 5 rfl rfl agg24 rfl) (g_tt g35 rfl) rfl ?_
                refine T3_ev 4 rfl (by kernel_rfl) (ev_move rfl) (g_tt g35 rfl) rfl ?_
                refine T3_ev 5 rfl (by kernel_rfl) (ev_move rfl) (g_tt g35 rfl) rfl ?_
                obtain ⟨x36, hx36, h⟩ := bind_elim h
                obtain ⟨lx36, ux36, hx36⟩ := getE_elim hx36
                refine T3_rd 6 rfl (by kernel_rfl) (rd_idx 0 rfl els_sl rfl rfl Tryz.underlying25 size38 lx36 ux36) (g_tt g35 rfl) rfl ?_
                refine T3_rd 7 rfl (by kernel_rfl) (rd_fa 0 rfl els_sl rfl (toNat_lt lx36 ux36) fa_38_1) (g_tt g35 rfl) rfl ?_
                refine T3_rd 8 rfl (by kernel_rfl) (rd_elem1 (u := .int .i64 x36.N) 0 rfl els_sl rfl hx36 one3 (fun _ _ _ h => by rw [show _ = _ from h]; rfl)) (g_tt g35 rfl) rfl ?_
                obtain ⟨y37, hy37, h⟩ := bind_elim h
                refine T3_opd 9 rfl (by kernel_rfl) (op_callR (pantomimeref19_Has_ok hy37) call14 rfl (mem_cons (lent_ro (i := 2) rfl rfl) (mem_cons (lent_ro (i := 3) rfl rfl) mem_nil)) pantomimeref19_Has_free) rfl (g_tt g35 rfl) rfl ?_
                rintro _ _ ⟨_, ⟨rfl, rfl⟩, rfl⟩
                refine ⟨_, cv_refl _, cv_refl _, ?_⟩
                refine T3_ev 10 rfl (by kernel_rfl) (ev_pick_t' g35 rfl rfl) rfl rfl ?_
                obtain rfl := Option.some.inj h
                exact T3_sub rest (sub_cons rfl (sub_skip (sub_skip (sub_skip (sub_skip (sub_skip (sub_skip (sub_skip (sub_skip (sub_skip sub_refl rfl) rfl) rfl) rfl) rfl) rfl) rfl) rfl) rfl)) (cv_refl _) (cv_refl _)
              · have h := cond_f g35 hb35
                refine T3_no 2 rfl (by kernel_rfl) (g_tf g35 rfl) rfl ?_
                refine T3_no 3 rfl (by kernel_rfl) (g_tf g35 rfl) rfl ?_
                refine T3_no 4 rfl (by kernel_rfl) (g_tf g35 rfl) rfl ?_
                refine T3_no 5 rfl (by kernel_rfl) (g_tf g35 rfl) rfl ?_
                refine T3_no 6 rfl (by kernel_rfl) (g_tf g35 rfl) rfl ?_
                refine T3_no 7 rfl (by kernel_rfl) (g_tf g35 rfl) rfl ?_
                refine T3_no 8 rfl (by kernel_rfl) (g_tf g35 rfl) rfl ?_
                refine T3_no 9 rfl (by kernel_rfl) (g_tf g35 rfl) rfl ?_
                refine T3_ev 10 rfl (by kernel_rfl) (ev_pick_f' g35 rfl rfl) rfl rfl ?_
                obtain rfl := Option.some.inj h
                exact T3_sub rest (sub_cons rfl (sub_skip (sub_skip (sub_skip (sub_skip (sub_skip (sub_skip (sub_skip (sub_skip (sub_skip sub_refl rfl) rfl) rfl) rfl) rfl) rfl) rfl) rfl) rfl)) (cv_refl _) (cv_refl _)
            refine T3_ev 11 rfl (by kernel_rfl) (ev_move rfl) rfl rfl ?_
            obtain ⟨b38, hb38, h⟩ := bind_elim h
            refine T3_joinB (fun l => ((((((((((((((((((l.setIfInBounds 12 true).setIfInBounds 13 true).setIfInBounds 14 true).setIfInBounds 15 true).setIfInBounds 16 true).setIfInBounds 17 true).setIfInBounds 18 true).setIfInBounds 20 true).setIfInBounds 21 true).setIfInBounds 22 true).setIfInBounds 23 true).setIfInBounds 24 true).setIfInBounds 25 true).setIfInBounds 26 true).setIfInBounds 19 true).setIfInBounds 27 true).setIfInBounds 28 true).setIfInBounds 29 true)) 0 124 b38 (fun rest => ?_) ?_
            · clear h
              refine T3_case 106 rfl (fun g38 => ?_) (fun g38 => ?_)
              · have h := cond_t g38 hb38
                refine T3_ev 12 rfl (by kernel_rfl) (ev_fa rfl fa_93_1) (g_tt g38 rfl) rfl ?_
                refine T3_rd 13 rfl (by kernel_rfl) (rd_box1 5 rfl rfl one35 rfl) (g_tt g38 rfl) rfl ?_
                refine T3_ev 14 rfl (by kernel_rfl) (ev_move rfl) (g_tt g38 rfl) rfl ?_
                refine T3_ev 15 rfl (by kernel_rfl) (ev_move rfl) (g_tt g38 rfl) rfl ?_
                obtain ⟨x39, hx39, h⟩ := bind_elim h
                obtain ⟨lx39, ux39, hx39⟩ := getE_elim hx39
                refine T3_rd 16 rfl (by kernel_rfl) (rd_idx 0 rfl els_sl rfl rfl Tryz.underlying25 size38 lx39 ux39) (g_tt g38 rfl) rfl ?_
                refine T3_rd 17 rfl (by kernel_rfl) (rd_fa 0 rfl els_sl rfl (toNat_lt lx39 ux39) fa_38_1) (g_tt g38 rfl) rfl ?_
                refine T3_rd 18 rfl (by kernel_rfl) (rd_elem1 (u := .int .i64 x39.N) 0 rfl els_sl rfl hx39 one3 (fun _ _ _ h => by rw [show _ = _ from h]; rfl)) (g_tt g38 rfl) rfl ?_
                refine T3_ev 20 rfl (by kernel_rfl) (ev_fa rfl fa_93_1) (g_tt g38 rfl) rfl ?_
                refine T3_rd 21 rfl (by kernel_rfl) (rd_box1 9 rfl rfl one35 rfl) (g_tt g38 rfl) rfl ?_
                refine T3_ev 22 rfl (by kernel_rfl) (ev_move rfl) (g_tt g38 rfl) rfl ?_
                refine T3_ev 23 rfl (by kernel_rfl) (ev_move rfl) (g_tt g38 rfl) rfl ?_
                obtain ⟨x40, hx40, h⟩ := bind_elim h
                obtain ⟨lx40, ux40, hx40⟩ := getE_elim hx40
                refine T3_rd 24 rfl (by kernel_rfl) (rd_idx 1 rfl els_sl rfl rfl Tryz.underlying25 size38 lx40 ux40) (g_tt g38 rfl) rfl ?_
                refine T3_rd 25 rfl (by kernel_rfl) (rd_fa 1 rfl els_sl rfl (toNat_lt lx40 ux40) fa_38_1) (g_tt g38 rfl) rfl ?_
                refine T3_rd 26 rfl (by kernel_rfl) (rd_elem1 (u := .int .i64 x40.N) 1 rfl els_sl rfl hx40 one3 (fun _ _ _ h => by rw [show _ = _ from h]; rfl)) (g_tt g38 rfl) rfl ?_
                obtain ⟨y41, hy41, h⟩ := bind_elim h
                refine T3_opd 19 rfl (by kernel_rfl) (op_callR (pantomimeref19_place_ok hy41) call129 rfl (mem_cons (lent_ro (i := 4) rfl rfl) mem_nil) pantomimeref19_place_free) rfl (g_tt g38 rfl) rfl ?_
                rintro _ _ ⟨_, ⟨rfl, rfl⟩, rfl⟩
                refine ⟨_, cv_refl _, cv_refl _, ?_⟩
                obtain ⟨y42, hy42, h⟩ := bind_elim h
                refine T3_opd 27 rfl (by kernel_rfl) (op_callR (pantomimeref19_place_ok hy42) call129 rfl (mem_cons (lent_ro (i := 8) rfl rfl) mem_nil) pantomimeref19_place_free) rfl (g_tt g38 rfl) rfl ?_
                rintro _ _ ⟨_, ⟨rfl, rfl⟩, rfl⟩
                refine ⟨_, cv_refl _, cv_refl _, ?_⟩
                refine T3_ev 28 rfl (by kernel_rfl) (ev_ne rfl rfl) (g_tt g38 rfl) rfl ?_
                refine T3_ev 29 rfl (by kernel_rfl) (ev_pick_t' g38 rfl rfl) rfl rfl ?_
                obtain rfl := Option.some.inj h
                exact T3_sub rest (sub_cons rfl (sub_skip (sub_skip (sub_skip (sub_skip (sub_skip (sub_skip (sub_skip (sub_skip (sub_skip (sub_skip (sub_skip (sub_skip (sub_skip (sub_skip (sub_skip (sub_skip (sub_skip (sub_skip sub_refl rfl) rfl) rfl) rfl) rfl) rfl) rfl) rfl) rfl) rfl) rfl) rfl) rfl) rfl) rfl) rfl) rfl) rfl)) (cv_refl _) (cv_refl _)
              · have h := cond_f g38 hb38
                refine T3_no 12 rfl (by kernel_rfl) (g_tf g38 rfl) rfl ?_
                refine T3_no 13 rfl (by kernel_rfl) (g_tf g38 rfl) rfl ?_
                refine T3_no 14 rfl (by kernel_rfl) (g_tf g38 rfl) rfl ?_
                refine T3_no 15 rfl (by kernel_rfl) (g_tf g38 rfl) rfl ?_
                refine T3_no 16 rfl (by kernel_rfl) (g_tf g38 rfl) rfl ?_
                refine T3_no 17 rfl (by kernel_rfl) (g_tf g38 rfl) rfl ?_
                refine T3_no 18 rfl (by kernel_rfl) (g_tf g38 rfl) rfl ?_
                refine T3_no 20 rfl (by kernel_rfl) (g_tf g38 rfl) rfl ?_
                refine T3_no 21 rfl (by kernel_rfl) (g_tf g38 rfl) rfl ?_
                refine T3_no 22 rfl (by kernel_rfl) (g_tf g38 rfl) rfl ?_
                refine T3_no 23 rfl (by kernel_rfl) (g_tf g38 rfl) rfl ?_
                refine T3_no 24 rfl (by kernel_rfl) (g_tf g38 rfl) rfl ?_
                refine T3_no 25 rfl (by kernel_rfl) (g_tf g38 rfl) rfl ?_
                refine T3_no 26 rfl (by kernel_rfl) (g_tf g38 rfl) rfl ?_
                refine T3_no 19 rfl (by kernel_rfl) (g_tf g38 rfl) rfl ?_
                refine T3_no 27 rfl (by kernel_rfl) (g_tf g38 rfl) rfl ?_
                refine T3_no 28 rfl (by kernel_rfl) (g_tf g38 rfl) rfl ?_
                refine T3_ev 29 rfl (by kernel_rfl) (ev_pick_f' g38 rfl rfl) rfl rfl ?_
                obtain rfl := Option.some.inj h
                exact T3_sub rest (sub_cons rfl (sub_skip (sub_skip (sub_skip (sub_skip (sub_skip (sub_skip (sub_skip (sub_skip (sub_skip (sub_skip (sub_skip (sub_skip (sub_skip (sub_skip (sub_skip (sub_skip (sub_skip (sub_skip sub_refl rfl) rfl) rfl) rfl) rfl) rfl) rfl) rfl) rfl) rfl) rfl) rfl) rfl) rfl) rfl) rfl) rfl) rfl)) (cv_refl _) (cv_refl _)
            refine T3_done (by kernel_rfl) ?_
            refine nx_n ?_
            refine G_cond rfl (fun g43 => ?_) (fun g43 => ?_)
            · replace h := cond_t g43 h
              refine run ?_
              obtain rfl := Option.some.inj h
              exact endG1 rfl rfl (cv_sel [] 10 rfl rfl) ⟨rfl, rfl⟩
            · replace h := cond_f g43 h
              refine run ?_
              obtain ⟨q44, h⟩ := req_elim h
              refine G_ev (ev_add rfl rfl q44.1 q44.2) rfl rfl rfl ?_
              refine run ?_
              exact ⟨m13, _, _, Nat.lt_succ_self _, ⟨p14 + 1, h, rfl, rfl⟩, sub_cons rfl (sub_cons rfl (sub_cons rfl (sub_cons rfl (sub_cons rfl (sub_cons rfl sub_nil))))), cv_sel [0, 1, 2, 3, 4, 5, 6, 7, 8, 9] 10 rfl rfl⟩
      · replace h := cond_f g15 h
        refine run ?_
        exact ⟨_, _, ⟨h, rfl, rfl⟩, sub_cons rfl sub_nil, cv_sel [] 10 rfl rfl⟩
    · rintro _ _ ⟨h, rfl, rfl⟩
      refine run ?_
      obtain rfl := Option.some.inj h
      exact endG1 rfl rfl (cv_sel [] 0 rfl rfl) ⟨rfl, rfl⟩
theorem pantomimeref19_values_free {r : Bool} : ∀ v post, ((fun (u : Value) (post : List Chunk) => u = .bool r ∧ post = [])) v post → ∀ c ∈ post, Free c := by
  rintro _ _ ⟨rfl, rfl⟩; exact mem_nil
end Go.Proofs.YtmbaennilhdieaaGreat

/- Pure functions and contracts of Go functions (printed by all3.py). -/
namespace Go.Proofs.YtmbaennilhdieaaGreat
open Go.RowKit Asn
set_option maxRecDepth 20000

def pantomimeref17_Copied_O (N : Nat) (a0 : DCell) : Option DCell :=
  req (fitsL (([] : List DValue).length + a0.Slots.length)) (req (fitsL (([] : List DValue).length + a0.More.length)) (some (⟨a0.Kind, a0.Shape, a0.Flags, a0.Age, ([] : List DValue) ++ a0.Slots, ([] : List DValue) ++ a0.More⟩ : DCell)))
theorem pantomimeref17_Copied_ok {N : Nat} {a0 : DCell} {r : DCell} (h : pantomimeref17_Copied_O N a0 = some r) {A1 : Option Addr} {n1 c1 : Nat} {A2 : Option Addr} {n2 c2 : Nat} : Okc Tryz.prog 181 [.agg #[.int .i64 a0.Kind, .int .i64 a0.Shape, .int .i64 a0.Flags, .int .i64 a0.Age, .slice A1 n1 c1, .slice A2 n2 c2]] ([slC rDValue (.slice A1 n1 c1) a0.Slots, slC rDValue (.slice A2 n2 c2) a0.More]) (fun (u : Value) (post : List Chunk) => ∃ A0 n0 c0 A1 n1 c1, u = .agg #[.int .i64 r.Kind, .int .i64 r.Shape, .int .i64 r.Flags, .int .i64 r.Age, .slice A0 n0 c0, .slice A1 n1 c1] ∧ post = [ownC rDValue 38 (.slice A0 n0 c0) r.Slots, ownC rDValue 38 (.slice A1 n1 c1) r.More]) := by
  refine ok_E Tryz.func181 rfl rfl ?_
  simp only [envOf]
  refine run ?_
  refine G_opd (op_box rfl rfl) rfl rfl rfl ?_
  rintro _ _ ⟨B3, rfl, rfl⟩
  refine G_opd (op_alloc zero32 rfl) rfl rfl rfl ?_
  rintro _ _ ⟨B4, rfl, rfl⟩
  refine run ?_
  refine G_ev (ev_build rfl (bld_32_0_1_2_3 _ _ _ _)) rfl rfl rfl ?_
  refine G_opd (op_alloc zero32 rfl) rfl rfl rfl ?_
  rintro _ _ ⟨B5, rfl, rfl⟩
  refine G_opn (op_store (us := [.int .i64 a0.Kind, .int .i64 a0.Shape, .int .i64 a0.Flags, .int .i64 a0.Age, .slice none 0 0, .slice none 0 0]) (cs' := [.int .i64 a0.Kind, .int .i64 a0.Shape, .int .i64 a0.Flags, .int .i64 a0.Age, .slice none 0 0, .slice none 0 0]) 0 rfl rfl rfl rfl size32 rfl rfl rfl) rfl rfl ?_
  rintro _ _ rfl
  refine G_norm ([boxC B5 32 [.int .i64 a0.Kind, .int .i64 a0.Shape, .int .i64 a0.Flags, .int .i64 a0.Age, .slice none 0 0, .slice none 0 0], boxC B4 32 [.int .i64 0, .int .i64 0, .int .i64 0, .int .i64 0, .slice none 0 0, .slice none 0 0], boxC B3 32 [.int .i64 a0.Kind, .int .i64 a0.Shape, .int .i64 a0.Flags, .int .i64 a0.Age, .slice A1 n1 c1, .slice A2 n2 c2], slC rDValue (.slice A1 n1 c1) a0.Slots, slC rDValue (.slice A2 n2 c2) a0.More]) rfl ?_
  refine runS ?_
  refine runE ?_
  refine G_cv (cv_nil rDValue 38 _) ?_
  obtain ⟨q7, h⟩ := req_elim h
  refine G_opd (op_append 0 4 rfl rfl els_sl rfl rfl Tryz.underlying25 zb38 rfl rfl q7) rfl rfl rfl ?_
  rintro _ _ ⟨A8, n8, c8, rfl, rfl⟩
  refine G_norm ([ownC rDValue 38 (.slice A8 n8 c8) (([] : List DValue) ++ a0.Slots), boxC B5 32 [.int .i64 a0.Kind, .int .i64 a0.Shape, .int .i64 a0.Flags, .int .i64 a0.Age, .slice none 0 0, .slice none 0 0], boxC B4 32 [.int .i64 0, .int .i64 0, .int .i64 0, .int .i64 0, .slice none 0 0, .slice none 0 0], boxC B3 32 [.int .i64 a0.Kind, .int .i64 a0.Shape, .int .i64 a0.Flags, .int .i64 a0.Age, .slice A1 n1 c1, .slice A2 n2 c2], slC rDValue (.slice A1 n1 c1) a0.Slots, slC rDValue (.slice A2 n2 c2) a0.More]) rfl ?_
  refine run ?_
  refine G_opn (op_store (us := [.slice A8 n8 c8]) (cs' := [.int .i64 a0.Kind, .int .i64 a0.Shape, .int .i64 a0.Flags, .int .i64 a0.Age, .slice A8 n8 c8, .slice none 0 0]) 1 rfl rfl rfl rfl size25 rfl rfl rfl) rfl rfl ?_
  rintro _ _ rfl
  refine G_norm ([ownC rDValue 38 (.slice A8 n8 c8) (([] : List DValue) ++ a0.Slots), boxC B5 32 [.int .i64 a0.Kind, .int .i64 a0.Shape, .int .i64 a0.Flags, .int .i64 a0.Age, .slice A8 n8 c8, .slice none 0 0], boxC B4 32 [.int .i64 0, .int .i64 0, .int .i64 0, .int .i64 0, .slice none 0 0, .slice none 0 0], boxC B3 32 [.int .i64 a0.Kind, .int .i64 a0.Shape, .int .i64 a0.Flags, .int .i64 a0.Age, .slice A1 n1 c1, .slice A2 n2 c2], slC rDValue (.slice A1 n1 c1) a0.Slots, slC rDValue (.slice A2 n2 c2) a0.More]) rfl ?_
  refine runS ?_
  refine runE ?_
  refine G_cv (cv_nil rDValue 38 _) ?_
  obtain ⟨q10, h⟩ := req_elim h
  refine G_opd (op_append 0 6 rfl rfl els_sl rfl rfl Tryz.underlying25 zb38 rfl rfl q10) rfl rfl rfl ?_
  rintro _ _ ⟨A11, n11, c11, rfl, rfl⟩
  refine G_norm ([ownC rDValue 38 (.slice A11 n11 c11) (([] : List DValue) ++ a0.More), ownC rDValue 38 (.slice A8 n8 c8) (([] : List DValue) ++ a0.Slots), boxC B5 32 [.int .i64 a0.Kind, .int .i64 a0.Shape, .int .i64 a0.Flags, .int .i64 a0.Age, .slice A8 n8 c8, .slice none 0 0], boxC B4 32 [.int .i64 0, .int .i64 0, .int .i64 0, .int .i64 0, .slice none 0 0, .slice none 0 0], boxC B3 32 [.int .i64 a0.Kind, .int .i64 a0.Shape, .int .i64 a0.Flags, .int .i64 a0.Age, .slice A1 n1 c1, .slice A2 n2 c2], slC rDValue (.slice A1 n1 c1) a0.Slots, slC rDValue (.slice A2 n2 c2) a0.More]) rfl ?_
  refine run ?_
  refine G_opn (op_store (us := [.slice A11 n11 c11]) (cs' := [.int .i64 a0.Kind, .int .i64 a0.Shape, .int .i64 a0.Flags, .int .i64 a0.Age, .slice A8 n8 c8, .slice A11 n11 c11]) 2 rfl rfl rfl rfl size25 rfl rfl rfl) rfl rfl ?_
  rintro _ _ rfl
  refine G_norm ([ownC rDValue 38 (.slice A11 n11 c11) (([] : List DValue) ++ a0.More), ownC rDValue 38 (.slice A8 n8 c8) (([] : List DValue) ++ a0.Slots), boxC B5 32 [.int .i64 a0.Kind, .int .i64 a0.Shape, .int .i64 a0.Flags, .int .i64 a0.Age, .slice A8 n8 c8, .slice A11 n11 c11], boxC B4 32 [.int .i64 0, .int .i64 0, .int .i64 0, .int .i64 0, .slice none 0 0, .slice none 0 0], boxC B3 32 [.int .i64 a0.Kind, .int .i64 a0.Shape, .int .i64 a0.Flags, .int .i64 a0.Age, .slice A1 n1 c1, .slice A2 n2 c2], slC rDValue (.slice A1 n1 c1) a0.Slots, slC rDValue (.slice A2 n2 c2) a0.More]) rfl ?_
  refine run ?_
  refine G_rd (rd_boxS (us := [.int .i64 a0.Kind, .int .i64 a0.Shape, .int .i64 a0.Flags, .int .i64 a0.Age, .slice A8 n8 c8, .slice A11 n11 c11]) 2 rfl rfl agg32 rfl) rfl rfl rfl ?_
  refine G_opn (op_store (us := [.int .i64 a0.Kind, .int .i64 a0.Shape, .int .i64 a0.Flags, .int .i64 a0.Age, .slice A8 n8 c8, .slice A11 n11 c11]) (cs' := [.int .i64 a0.Kind, .int .i64 a0.Shape, .int .i64 a0.Flags, .int .i64 a0.Age, .slice A8 n8 c8, .slice A11 n11 c11]) 3 rfl rfl rfl rfl size32 rfl rfl rfl) rfl rfl ?_
  rintro _ _ rfl
  refine G_norm ([ownC rDValue 38 (.slice A11 n11 c11) (([] : List DValue) ++ a0.More), ownC rDValue 38 (.slice A8 n8 c8) (([] : List DValue) ++ a0.Slots), boxC B5 32 [.int .i64 a0.Kind, .int .i64 a0.Shape, .int .i64 a0.Flags, .int .i64 a0.Age, .slice A8 n8 c8, .slice A11 n11 c11], boxC B4 32 [.int .i64 a0.Kind, .int .i64 a0.Shape, .int .i64 a0.Flags, .int .i64 a0.Age, .slice A8 n8 c8, .slice A11 n11 c11], boxC B3 32 [.int .i64 a0.Kind, .int .i64 a0.Shape, .int .i64 a0.Flags, .int .i64 a0.Age, .slice A1 n1 c1, .slice A2 n2 c2], slC rDValue (.slice A1 n1 c1) a0.Slots, slC rDValue (.slice A2 n2 c2) a0.More]) rfl ?_
  refine run ?_
  obtain rfl := Option.some.inj h
  exact endGl (rs := [.cell 2 32]) (vs := [.agg #[.int .i64 a0.Kind, .int .i64 a0.Shape, .int .i64 a0.Flags, .int .i64 a0.Age, .slice A8 n8 c8, .slice A11 n11 c11]]) rfl (.cons (rv_boxS 3 rfl rfl agg32) .nil) rfl (cv_sel [1, 0] 7 rfl rfl) ⟨_, _, _, _, _, _, rfl, rfl⟩
def pantomimeref17_without_j10 (N : Nat) (y6 : (DCell)) (p11 : (List DValue)) : Option DCell :=
  some (⟨y6.Kind, y6.Shape, y6.Flags, y6.Age, y6.Slots, p11⟩ : DCell)
def pantomimeref17_without_j17 (N : Nat) (kb12 : Int → (List DValue) → Option DCell) (p13 : Int) (a1 : (List Bool)) (a0 : DCell) (y6 : (DCell)) (p18 : (List DValue)) : Option DCell :=
  req (in64 (p13 + 1)) (kb12 (p13 + 1) p18)
def pantomimeref17_without_l12 (N : Nat) (a1 : (List Bool)) (a0 : DCell) (y6 : (DCell)) : Nat → Int → (List DValue) → Option DCell
  | 0, _, _ => none
  | m12 + 1, p13, p14 => bif decide (p13 < (a1.length : Int)) then ((getE a1 p13).bind fun x19 => bif x19 then (req (in64 (2 * p13)) ((getE a0.More (2 * p13)).bind fun x22 => req (in64 (2 * p13)) (req (in64 ((2 * p13) + 1)) ((getE a0.More ((2 * p13) + 1)).bind fun x25 => req (fitsL (p14.length + ([x22, x25] : List DValue).length)) (pantomimeref17_without_j17 N (pantomimeref17_without_l12 N a1 a0 y6 m12) p13 a1 a0 y6 (p14 ++ ([x22, x25] : List DValue))))))) else (pantomimeref17_without_j17 N (pantomimeref17_without_l12 N a1 a0 y6 m12) p13 a1 a0 y6 p14)) else (pantomimeref17_without_j10 N y6 p14)
theorem pantomimeref17_without_l12_s {N m12 : Nat} {a1 : (List Bool)} {a0 : DCell} {y6 : (DCell)} {p13 : Int} {p14 : (List DValue)} : pantomimeref17_without_l12 N a1 a0 y6 (m12 + 1) p13 p14 = bif decide (p13 < (a1.length : Int)) then ((getE a1 p13).bind fun x19 => bif x19 then (req (in64 (2 * p13)) ((getE a0.More (2 * p13)).bind fun x22 => req (in64 (2 * p13)) (req (in64 ((2 * p13) + 1)) ((getE a0.More ((2 * p13) + 1)).bind fun x25 => req (fitsL (p14.length + ([x22, x25] : List DValue).length)) (pantomimeref17_without_j17 N (pantomimeref17_without_l12 N a1 a0 y6 m12) p13 a1 a0 y6 (p14 ++ ([x22, x25] : List DValue))))))) else (pantomimeref17_without_j17 N (pantomimeref17_without_l12 N a1 a0 y6 m12) p13 a1 a0 y6 p14)) else (pantomimeref17_without_j10 N y6 p14) := rfl
def pantomimeref17_without_O (N : Nat) (a0 : DCell) (a1 : (List Bool)) : Option DCell :=
  (pantomimeref17_Copied_O N a0).bind fun y6 => pantomimeref17_without_l12 N a1 a0 y6 N 0 []
theorem pantomimeref17_without_ok {N : Nat} {a0 : DCell} {a1 : (List Bool)} {r : DCell} (h : pantomimeref17_without_O N a0 a1 = some r) {A1 : Option Addr} {n1 c1 : Nat} {A2 : Option Addr} {n2 c2 : Nat} {A3 : Option Addr} {n3 c3 : Nat} : Okc Tryz.prog 138 [.agg #[.int .i64 a0.Kind, .int .i64 a0.Shape, .int .i64 a0.Flags, .int .i64 a0.Age, .slice A1 n1 c1, .slice A2 n2 c2], .slice A3 n3 c3] ([slC rDValue (.slice A1 n1 c1) a0.Slots, slC rDValue (.slice A2 n2 c2) a0.More, slC rBool (.slice A3 n3 c3) a1]) (fun (u : Value) (post : List Chunk) => ∃ A0 n0 c0 A1 n1 c1, u = .agg #[.int .i64 r.Kind, .int .i64 r.Shape, .int .i64 r.Flags, .int .i64 r.Age, .slice A0 n0 c0, .slice A1 n1 c1] ∧ post = [ownC rDValue 38 (.slice A0 n0 c0) r.Slots, ownC rDValue 38 (.slice A1 n1 c1) r.More]) := by
  refine ok_E Tryz.func138 rfl rfl ?_
  simp only [envOf]
  refine run ?_
  refine G_opd (op_box rfl rfl) rfl rfl rfl ?_
  rintro _ _ ⟨B4, rfl, rfl⟩
  refine G_opd (op_alloc zero32 rfl) rfl rfl rfl ?_
  rintro _ _ ⟨B5, rfl, rfl⟩
  refine run ?_
  refine G_rd (rd_boxS (us := [.int .i64 a0.Kind, .int .i64 a0.Shape, .int .i64 a0.Flags, .int .i64 a0.Age, .slice A1 n1 c1, .slice A2 n2 c2]) 1 rfl rfl agg32 rfl) rfl rfl rfl ?_
  obtain ⟨y6, hy6, h⟩ := bind_elim h
  refine G_opd (op_call (pantomimeref17_Copied_ok hy6) call181 rfl (cv_take [2, 3] [] [0, 1, 2, 3, 4] 5 rfl)) rfl rfl rfl ?_
  rintro _ _ ⟨_, ⟨A7, n7, c7, A8, n8, c8, rfl, rfl⟩, rfl⟩
  refine G_norm ([ownC rDValue 38 (.slice A7 n7 c7) y6.Slots, ownC rDValue 38 (.slice A8 n8 c8) y6.More, boxC B5 32 [.int .i64 0, .int .i64 0, .int .i64 0, .int .i64 0, .slice none 0 0, .slice none 0 0], boxC B4 32 [.int .i64 a0.Kind, .int .i64 a0.Shape, .int .i64 a0.Flags, .int .i64 a0.Age, .slice A1 n1 c1, .slice A2 n2 c2], slC rDValue (.slice A1 n1 c1) a0.Slots, slC rDValue (.slice A2 n2 c2) a0.More, slC rBool (.slice A3 n3 c3) a1]) rfl ?_
  refine G_opd (op_alloc zero32 rfl) rfl rfl rfl ?_
  rintro _ _ ⟨B9, rfl, rfl⟩
  refine G_opn (op_store (us := [.int .i64 y6.Kind, .int .i64 y6.Shape, .int .i64 y6.Flags, .int .i64 y6.Age, .slice A7 n7 c7, .slice A8 n8 c8]) (cs' := [.int .i64 y6.Kind, .int .i64 y6.Shape, .int .i64 y6.Flags, .int .i64 y6.Age, .slice A7 n7 c7, .slice A8 n8 c8]) 0 rfl rfl rfl rfl size32 rfl rfl rfl) rfl rfl ?_
  rintro _ _ rfl
  refine G_norm ([boxC B9 32 [.int .i64 y6.Kind, .int .i64 y6.Shape, .int .i64 y6.Flags, .int .i64 y6.Age, .slice A7 n7 c7, .slice A8 n8 c8], ownC rDValue 38 (.slice A7 n7 c7) y6.Slots, ownC rDValue 38 (.slice A8 n8 c8) y6.More, boxC B5 32 [.int .i64 0, .int .i64 0, .int .i64 0, .int .i64 0, .slice none 0 0, .slice none 0 0], boxC B4 32 [.int .i64 a0.Kind, .int .i64 a0.Shape, .int .i64 a0.Flags, .int .i64 a0.Age, .slice A1 n1 c1, .slice A2 n2 c2], slC rDValue (.slice A1 n1 c1) a0.Slots, slC rDValue (.slice A2 n2 c2) a0.More, slC rBool (.slice A3 n3 c3) a1]) rfl ?_
  refine run ?_
  refine G_opn (op_store (us := [.slice none 0 0]) (cs' := [.int .i64 y6.Kind, .int .i64 y6.Shape, .int .i64 y6.Flags, .int .i64 y6.Age, .slice A7 n7 c7, .slice none 0 0]) 0 rfl rfl rfl rfl size25 rfl rfl rfl) rfl rfl ?_
  rintro _ _ rfl
  refine G_norm ([boxC B9 32 [.int .i64 y6.Kind, .int .i64 y6.Shape, .int .i64 y6.Flags, .int .i64 y6.Age, .slice A7 n7 c7, .slice none 0 0], ownC rDValue 38 (.slice A7 n7 c7) y6.Slots, ownC rDValue 38 (.slice A8 n8 c8) y6.More, boxC B5 32 [.int .i64 0, .int .i64 0, .int .i64 0, .int .i64 0, .slice none 0 0, .slice none 0 0], boxC B4 32 [.int .i64 a0.Kind, .int .i64 a0.Shape, .int .i64 a0.Flags, .int .i64 a0.Age, .slice A1 n1 c1, .slice A2 n2 c2], slC rDValue (.slice A1 n1 c1) a0.Slots, slC rDValue (.slice A2 n2 c2) a0.More, slC rBool (.slice A3 n3 c3) a1]) rfl ?_
  refine run ?_
  refine G_joinF (fun s L => ∃ (p11 : (List DValue)) (A11 : Option Addr) (n11 c11 : Nat), pantomimeref17_without_j10 N y6 p11 = some r ∧ s = [(4, .pointer (some ⟨B5, 0, none⟩)), (5, .pointer (some ⟨B9, 0, none⟩))] ∧ L = [boxC B5 32 [.int .i64 0, .int .i64 0, .int .i64 0, .int .i64 0, .slice none 0 0, .slice none 0 0], ownC rDValue 38 (.slice A7 n7 c7) y6.Slots, ownC rDValue 38 (.slice A11 n11 c11) p11, boxC B9 32 [.int .i64 y6.Kind, .int .i64 y6.Shape, .int .i64 y6.Flags, .int .i64 y6.Age, .slice A7 n7 c7, .slice A11 n11 c11]]) ?_ ?_
  · refine run ?_
    refine G_loopF (fun m s L => ∃ (p13 : Int) (p14 : (List DValue)) (A14 : Option Addr) (n14 c14 : Nat), pantomimeref17_without_l12 N a1 a0 y6 m p13 p14 = some r ∧ s = [(1, .slice A3 n3 c3), (2, .pointer (some ⟨B4, 0, none⟩)), (4, .pointer (some ⟨B5, 0, none⟩)), (5, .pointer (some ⟨B9, 0, none⟩)), (6, .int .i64 p13)] ∧ L = [slC rBool (.slice A3 n3 c3) a1, slC rDValue (.slice A1 n1 c1) a0.Slots, slC rDValue (.slice A2 n2 c2) a0.More, boxC B4 32 [.int .i64 a0.Kind, .int .i64 a0.Shape, .int .i64 a0.Flags, .int .i64 a0.Age, .slice A1 n1 c1, .slice A2 n2 c2], boxC B5 32 [.int .i64 0, .int .i64 0, .int .i64 0, .int .i64 0, .slice none 0 0, .slice none 0 0], ownC rDValue 38 (.slice A7 n7 c7) y6.Slots, ownC rDValue 38 (.slice A14 n14 c14) p14, boxC B9 32 [.int .i64 y6.Kind, .int .i64 y6.Shape, .int .i64 y6.Flags, .int .i64 y6.Age, .slice A7 n7 c7, .slice A14 n14 c14]]) N _ _ ⟨0, [], none, 0, 0, h, rfl, rfl⟩ (sub_cons rfl (sub_cons rfl (sub_cons rfl (sub_cons rfl (sub_cons rfl sub_nil))))) ((cv_nil rDValue 38 _).trans (cv_sel [8, 6, 7, 5, 4, 2, 0, 1] 9 rfl rfl)) ?_
    rintro (_ | m12) _ _ ⟨p13, p14, A14, n14, c14, h, rfl, rfl⟩
    · exact none_some h
    rw [pantomimeref17_without_l12_s] at h
    refine G_seq ?_
    refine run ?_
    refine G_rd (rd_len 0 rfl els_sl rfl Tryz.underlying139) rfl rfl rfl ?_
    refine run ?_
    refine G_cond rfl (fun g16 => ?_) (fun g16 => ?_)
    · replace h := cond_t g16 h
      refine run ?_
      refine G_joinF (fun s L => ∃ (p18 : (List DValue)) (A18 : Option Addr) (n18 c18 : Nat), pantomimeref17_without_j17 N (pantomimeref17_without_l12 N a1 a0 y6 m12) p13 a1 a0 y6 p18 = some r ∧ s = [(1, .slice A3 n3 c3), (2, .pointer (some ⟨B4, 0, none⟩)), (4, .pointer (some ⟨B5, 0, none⟩)), (5, .pointer (some ⟨B9, 0, none⟩)), (6, .int .i64 p13)] ∧ L = [slC rBool (.slice A3 n3 c3) a1, slC rDValue (.slice A1 n1 c1) a0.Slots, slC rDValue (.slice A2 n2 c2) a0.More, boxC B4 32 [.int .i64 a0.Kind, .int .i64 a0.Shape, .int .i64 a0.Flags, .int .i64 a0.Age, .slice A1 n1 c1, .slice A2 n2 c2], boxC B5 32 [.int .i64 0, .int .i64 0, .int .i64 0, .int .i64 0, .slice none 0 0, .slice none 0 0], ownC rDValue 38 (.slice A7 n7 c7) y6.Slots, ownC rDValue 38 (.slice A18 n18 c18) p18, boxC B9 32 [.int .i64 y6.Kind, .int .i64 y6.Shape, .int .i64 y6.Flags, .int .i64 y6.Age, .slice A7 n7 c7, .slice A18 n18 c18]]) ?_ ?_
      · refine run ?_
        obtain ⟨x19, hx19, h⟩ := bind_elim h
        obtain ⟨lx19, ux19, hx19⟩ := getE_elim hx19
        refine G_rd (rd_idx 0 rfl els_sl rfl rfl Tryz.underlying139 size4 lx19 ux19) rfl rfl rfl ?_
        refine G_rd (rd_elem1 (u := .bool x19) 0 rfl els_sl rfl hx19 one4 (fun _ _ _ h => by rw [show _ = _ from h]; rfl)) rfl rfl rfl ?_
        refine run ?_
        refine G_cond rfl (fun g20 => ?_) (fun g20 => ?_)
        · replace h := cond_t g20 h
          obtain ⟨q21, h⟩ := req_elim h
          obtain ⟨x22, hx22, h⟩ := bind_elim h
          obtain ⟨lx22, ux22, hx22⟩ := getE_elim hx22
          obtain ⟨q23, h⟩ := req_elim h
          obtain ⟨q24, h⟩ := req_elim h
          obtain ⟨x25, hx25, h⟩ := bind_elim h
          obtain ⟨lx25, ux25, hx25⟩ := getE_elim hx25
          refine G_sub (t := [(1, .slice A3 n3 c3), (2, .pointer (some ⟨B4, 0, none⟩)), (4, .pointer (some ⟨B5, 0, none⟩)), (5, .pointer (some ⟨B9, 0, none⟩)), (6, .int .i64 p13)]) ?_ subT (cv_refl _)
          refine G_monoX (by kernel_rfl) 16 [] [1, 15] [20, 21, 22, 23, 24, 25, 26, 27, 28, 29, 30, 31, 32, 33, 34, 35] [[], [0], [], [2], [], [4], [3, 5], [6], [], [8], [], [10], [11], [9, 12], [13], [7, 14]] [aV (.pointer (some ⟨B9, 5, none⟩)),
 aV (.slice A14 n14 c14),
 aV (.pointer (some ⟨B4, 5, none⟩)),
 aV (.slice A2 n2 c2),
 aV (.int .i64 p13),
 aV (.int .i64 (2 * p13)),
 aV (elemQ (.slice A2 n2 c2) ((2 * p13).toNat) 3 0),
 aV (.agg #[.int .i64 x22.Kind, .int .i64 x22.N, .string x22.S]),
 aV (.pointer (some ⟨B4, 5, none⟩)),
 aV (.slice A2 n2 c2),
 aV (.int .i64 p13),
 aV (.int .i64 (2 * p13)),
 aV (.int .i64 ((2 * p13) + 1)),
 aV (elemQ (.slice A2 n2 c2) (((2 * p13) + 1).toNat) 3 0),
 aV (.agg #[.int .i64 x25.Kind, .int .i64 x25.N, .string x25.S]),
 aX3 (fun (A27 : Option Addr) (n27 c27 : Nat) => .slice A27 n27 c27) (fun A27 n27 c27 => [ownC rDValue 38 (.slice A27 n27 c27) ([x22, x25] : List DValue)])] [] (cv_refl _) (qB_nil) (by kernel_rfl) rfl rfl ?_ ?_ ?_
          · exact qs_nil
          · refine steps_cons rfl ?_ ?_
            · refine X_op (op_bslice (R := rDValue) (vss := [[.int .i64 x22.Kind, .int .i64 x22.N, .string x22.S], [.int .i64 x25.Kind, .int .i64 x25.N, .string x25.S]]) (xs := [x22, x25]) rfl (bsl_25_2 _ _ _ _ _ _) rfl rfl (fun _ _ hr => .cons rfl (.cons rfl All2.nil))) rfl ?_
              rintro _ _ ⟨A26, n26, c26, rfl, rfl⟩
              exact cvp3 A26 n26 c26 (cv_refl _)
            refine steps_cons rfl ?_ ?_
            · exact X_rd (rd_elemS (us := [.int .i64 x25.Kind, .int .i64 x25.N, .string x25.S]) 2 rfl els_sl rfl hx25 agg38 (fun _ _ _ h => by rw [show _ = _ from h]; rfl)) rfl (cvpV rfl (cv_refl _))
            refine steps_cons rfl ?_ ?_
            · exact X_rd (rd_idx 2 rfl els_sl rfl rfl Tryz.underlying25 size38 lx25 ux25) rfl (cvpV rfl (cv_refl _))
            refine steps_cons rfl ?_ ?_
            · exact X_ev (ev_add rfl rfl q24.1 q24.2) rfl (cvpV rfl (cv_refl _))
            refine steps_cons rfl ?_ ?_
            · exact X_ev (ev_mul rfl rfl q23.1 q23.2) rfl (cvpV rfl (cv_refl _))
            refine steps_cons rfl ?_ ?_
            · exact X_ev (ev_move rfl) rfl (cvpV rfl (cv_refl _))
            refine steps_cons rfl ?_ ?_
            · exact X_rd (rd_box1 3 rfl rfl one25 rfl) rfl (cvpV rfl (cv_refl _))
            refine steps_cons rfl ?_ ?_
            · exact X_ev (ev_fa rfl fa_32_5) rfl (cvpV rfl (cv_refl _))
            refine steps_cons rfl ?_ ?_
            · exact X_rd (rd_elemS (us := [.int .i64 x22.Kind, .int .i64 x22.N, .string x22.S]) 2 rfl els_sl rfl hx22 agg38 (fun _ _ _ h => by rw [show _ = _ from h]; rfl)) rfl (cvpV rfl (cv_refl _))
            refine steps_cons rfl ?_ ?_
            · exact X_rd (rd_idx 2 rfl els_sl rfl rfl Tryz.underlying25 size38 lx22 ux22) rfl (cvpV rfl (cv_refl _))
            refine steps_cons rfl ?_ ?_
            · exact X_ev (ev_mul rfl rfl q21.1 q21.2) rfl (cvpV rfl (cv_refl _))
            refine steps_cons rfl ?_ ?_
            · exact X_ev (ev_move rfl) rfl (cvpV rfl (cv_refl _))
            refine steps_cons rfl ?_ ?_
            · exact X_rd (rd_box1 3 rfl rfl one25 rfl) rfl (cvpV rfl (cv_refl _))
            refine steps_cons rfl ?_ ?_
            · exact X_ev (ev_fa rfl fa_32_5) rfl (cvpV rfl (cv_refl _))
            refine steps_cons rfl ?_ ?_
            · exact X_rd (rd_box1 7 rfl rfl one25 rfl) rfl (cvpV rfl (cv_refl _))
            refine steps_cons rfl ?_ ?_
            · exact X_ev (ev_fa rfl fa_32_5) rfl (cvpV rfl (cv_refl _))
            exact steps_nil
          · intro A27 n27 c27
            refine N_sub (t := [(21, .slice A14 n14 c14), (35, .slice A27 n27 c27), (1, .slice A3 n3 c3), (2, .pointer (some ⟨B4, 0, none⟩)), (4, .pointer (some ⟨B5, 0, none⟩)), (5, .pointer (some ⟨B9, 0, none⟩)), (6, .int .i64 p13)]) (L' := [ownC rDValue 38 (.slice A27 n27 c27) ([x22, x25] : List DValue), slC rBool (.slice A3 n3 c3) a1, slC rDValue (.slice A1 n1 c1) a0.Slots, slC rDValue (.slice A2 n2 c2) a0.More, boxC B4 32 [.int .i64 a0.Kind, .int .i64 a0.Shape, .int .i64 a0.Flags, .int .i64 a0.Age, .slice A1 n1 c1, .slice A2 n2 c2], boxC B5 32 [.int .i64 0, .int .i64 0, .int .i64 0, .int .i64 0, .slice none 0 0, .slice none 0 0], ownC rDValue 38 (.slice A7 n7 c7) y6.Slots, ownC rDValue 38 (.slice A14 n14 c14) p14, boxC B9 32 [.int .i64 y6.Kind, .int .i64 y6.Shape, .int .i64 y6.Flags, .int .i64 y6.Age, .slice A7 n7 c7, .slice A14 n14 c14]]) ?_ subT (cv_refl _)
            obtain ⟨q28, h⟩ := req_elim h
            refine N_opd 16 rfl (by kernel_rfl) (op_append 7 0 rfl rfl els_own rfl rfl Tryz.underlying25 zb38 rfl rfl q28) rfl rfl rfl ?_
            rintro _ _ ⟨A29, n29, c29, rfl, rfl⟩
            refine N_norm ([ownC rDValue 38 (.slice A27 n27 c27) ([x22, x25] : List DValue), slC rBool (.slice A3 n3 c3) a1, slC rDValue (.slice A1 n1 c1) a0.Slots, slC rDValue (.slice A2 n2 c2) a0.More, boxC B4 32 [.int .i64 a0.Kind, .int .i64 a0.Shape, .int .i64 a0.Flags, .int .i64 a0.Age, .slice A1 n1 c1, .slice A2 n2 c2], boxC B5 32 [.int .i64 0, .int .i64 0, .int .i64 0, .int .i64 0, .slice none 0 0, .slice none 0 0], ownC rDValue 38 (.slice A7 n7 c7) y6.Slots, ownC rDValue 38 (.slice A29 n29 c29) (p14 ++ ([x22, x25] : List DValue)), boxC B9 32 [.int .i64 y6.Kind, .int .i64 y6.Shape, .int .i64 y6.Flags, .int .i64 y6.Age, .slice A7 n7 c7, .slice A14 n14 c14]]) rfl ?_
            refine N_ev 17 rfl (by kernel_rfl) (ev_fa rfl fa_32_5) rfl rfl rfl ?_
            refine N_opn 18 rfl (by kernel_rfl) (op_store (us := [.slice A29 n29 c29]) (cs' := [.int .i64 y6.Kind, .int .i64 y6.Shape, .int .i64 y6.Flags, .int .i64 y6.Age, .slice A7 n7 c7, .slice A29 n29 c29]) 8 rfl rfl rfl rfl size25 rfl rfl rfl) rfl rfl ?_
            rintro _ _ rfl
            refine N_norm ([ownC rDValue 38 (.slice A27 n27 c27) ([x22, x25] : List DValue), slC rBool (.slice A3 n3 c3) a1, slC rDValue (.slice A1 n1 c1) a0.Slots, slC rDValue (.slice A2 n2 c2) a0.More, boxC B4 32 [.int .i64 a0.Kind, .int .i64 a0.Shape, .int .i64 a0.Flags, .int .i64 a0.Age, .slice A1 n1 c1, .slice A2 n2 c2], boxC B5 32 [.int .i64 0, .int .i64 0, .int .i64 0, .int .i64 0, .slice none 0 0, .slice none 0 0], ownC rDValue 38 (.slice A7 n7 c7) y6.Slots, ownC rDValue 38 (.slice A29 n29 c29) (p14 ++ ([x22, x25] : List DValue)), boxC B9 32 [.int .i64 y6.Kind, .int .i64 y6.Shape, .int .i64 y6.Flags, .int .i64 y6.Age, .slice A7 n7 c7, .slice A29 n29 c29]]) rfl ?_
            refine N_done (by kernel_rfl) ?_
            refine run ?_
            exact ⟨_, _, ⟨p14 ++ ([x22, x25] : List DValue), A29, n29, c29, h, rfl, rfl⟩, sub_cons rfl (sub_cons rfl (sub_cons rfl (sub_cons rfl (sub_cons rfl sub_nil)))), cv_sel [1, 2, 3, 4, 5, 6, 7, 8] 9 rfl rfl⟩
        · replace h := cond_f g20 h
          refine run ?_
          exact ⟨_, _, ⟨p14, A14, n14, c14, h, rfl, rfl⟩, sub_cons rfl (sub_cons rfl (sub_cons rfl (sub_cons rfl (sub_cons rfl sub_nil)))), cv_sel [0, 1, 2, 3, 4, 5, 6, 7] 8 rfl rfl⟩
      · rintro _ _ ⟨p18, A18, n18, c18, h, rfl, rfl⟩
        refine run ?_
        obtain ⟨q30, h⟩ := req_elim h
        refine G_ev (ev_add rfl rfl q30.1 q30.2) rfl rfl rfl ?_
        refine run ?_
        exact ⟨m12, _, _, Nat.lt_succ_self _, ⟨p13 + 1, p18, A18, n18, c18, h, rfl, rfl⟩, sub_cons rfl (sub_cons rfl (sub_cons rfl (sub_cons rfl (sub_cons rfl sub_nil)))), cv_sel [0, 1, 2, 3, 4, 5, 6, 7] 8 rfl rfl⟩
    · replace h := cond_f g16 h
      refine run ?_
      exact ⟨_, _, ⟨p14, A14, n14, c14, h, rfl, rfl⟩, sub_cons rfl (sub_cons rfl sub_nil), cv_sel [4, 5, 6, 7] 8 rfl rfl⟩
  · rintro _ _ ⟨p11, A11, n11, c11, h, rfl, rfl⟩
    refine run ?_
    refine G_rd (rd_boxS (us := [.int .i64 y6.Kind, .int .i64 y6.Shape, .int .i64 y6.Flags, .int .i64 y6.Age, .slice A7 n7 c7, .slice A11 n11 c11]) 3 rfl rfl agg32 rfl) rfl rfl rfl ?_
    refine G_opn (op_store (us := [.int .i64 y6.Kind, .int .i64 y6.Shape, .int .i64 y6.Flags, .int .i64 y6.Age, .slice A7 n7 c7, .slice A11 n11 c11]) (cs' := [.int .i64 y6.Kind, .int .i64 y6.Shape, .int .i64 y6.Flags, .int .i64 y6.Age, .slice A7 n7 c7, .slice A11 n11 c11]) 0 rfl rfl rfl rfl size32 rfl rfl rfl) rfl rfl ?_
    rintro _ _ rfl
    refine G_norm ([boxC B5 32 [.int .i64 y6.Kind, .int .i64 y6.Shape, .int .i64 y6.Flags, .int .i64 y6.Age, .slice A7 n7 c7, .slice A11 n11 c11], ownC rDValue 38 (.slice A7 n7 c7) y6.Slots, ownC rDValue 38 (.slice A11 n11 c11) p11, boxC B9 32 [.int .i64 y6.Kind, .int .i64 y6.Shape, .int .i64 y6.Flags, .int .i64 y6.Age, .slice A7 n7 c7, .slice A11 n11 c11]]) rfl ?_
    refine run ?_
    obtain rfl := Option.some.inj h
    exact endGl (rs := [.cell 4 32]) (vs := [.agg #[.int .i64 y6.Kind, .int .i64 y6.Shape, .int .i64 y6.Flags, .int .i64 y6.Age, .slice A7 n7 c7, .slice A11 n11 c11]]) rfl (.cons (rv_boxS 0 rfl rfl agg32) .nil) rfl (cv_sel [1, 2] 4 rfl rfl) ⟨_, _, _, _, _, _, rfl, rfl⟩
def pantomimeref17_Clean_j10 (N : Nat) (a0 : DCell) (p11 : (List Bool)) : Option DCell :=
  (pantomimeref17_without_O N a0 p11).bind fun y23 => some y23
def pantomimeref17_Clean_l12 (N : Nat) (a1 : (List Int)) (a0 : DCell) : Nat → (List Bool) → Int → Option DCell
  | 0, _, _ => none
  | m12 + 1, p13, p14 => bif decide (p14 < (a0.More.length : Int)) then ((getE a0.More p14).bind fun x17 => (pantomimeref17_In_O N x17.N a1).bind fun y18 => req (fitsL (p13.length + ([y18] : List Bool).length)) (req (in64 (p14 + 2)) ((pantomimeref17_Clean_l12 N a1 a0 m12) (p13 ++ ([y18] : List Bool)) (p14 + 2)))) else (pantomimeref17_Clean_j10 N a0 p13)
theorem pantomimeref17_Clean_l12_s {N m12 : Nat} {a1 : (List Int)} {a0 : DCell} {p13 : (List Bool)} {p14 : Int} : pantomimeref17_Clean_l12 N a1 a0 (m12 + 1) p13 p14 = bif decide (p14 < (a0.More.length : Int)) then ((getE a0.More p14).bind fun x17 => (pantomimeref17_In_O N x17.N a1).bind fun y18 => req (fitsL (p13.length + ([y18] : List Bool).length)) (req (in64 (p14 + 2)) ((pantomimeref17_Clean_l12 N a1 a0 m12) (p13 ++ ([y18] : List Bool)) (p14 + 2)))) else (pantomimeref17_Clean_j10 N a0 p13) := rfl
def pantomimeref17_Clean_O (N : Nat) (a0 : DCell) (a1 : (List Int)) : Option DCell :=
  (pantomimeref17_Is_O N a0).bind fun y6 => bif !y6 then (some (⟨0, 0, 0, 0, [], []⟩ : DCell)) else (pantomimeref17_Clean_l12 N a1 a0 N [] 0)
theorem pantomimeref17_Clean_ok {N : Nat} {a0 : DCell} {a1 : (List Int)} {r : DCell} (h : pantomimeref17_Clean_O N a0 a1 = some r) {A1 : Option Addr} {n1 c1 : Nat} {A2 : Option Addr} {n2 c2 : Nat} {A3 : Option Addr} {n3 c3 : Nat} : Okc Tryz.prog 84 [.agg #[.int .i64 a0.Kind, .int .i64 a0.Shape, .int .i64 a0.Flags, .int .i64 a0.Age, .slice A1 n1 c1, .slice A2 n2 c2], .slice A3 n3 c3] ([slC rDValue (.slice A1 n1 c1) a0.Slots, slC rDValue (.slice A2 n2 c2) a0.More, slC (rInt .i64) (.slice A3 n3 c3) a1]) (fun (u : Value) (post : List Chunk) => ∃ A0 n0 c0 A1 n1 c1, u = .agg #[.int .i64 r.Kind, .int .i64 r.Shape, .int .i64 r.Flags, .int .i64 r.Age, .slice A0 n0 c0, .slice A1 n1 c1] ∧ post = [ownC rDValue 38 (.slice A0 n0 c0) r.Slots, ownC rDValue 38 (.slice A1 n1 c1) r.More]) := by
  refine ok_E Tryz.func84 rfl rfl ?_
  simp only [envOf]
  refine run ?_
  refine G_opd (op_box rfl rfl) rfl rfl rfl ?_
  rintro _ _ ⟨B4, rfl, rfl⟩
  refine G_opd (op_alloc zero32 rfl) rfl rfl rfl ?_
  rintro _ _ ⟨B5, rfl, rfl⟩
  refine run ?_
  refine G_seq ?_
  refine run ?_
  refine G_rd (rd_boxS (us := [.int .i64 a0.Kind, .int .i64 a0.Shape, .int .i64 a0.Flags, .int .i64 a0.Age, .slice A1 n1 c1, .slice A2 n2 c2]) 1 rfl rfl agg32 rfl) rfl rfl rfl ?_
  obtain ⟨y6, hy6, h⟩ := bind_elim h
  refine G_opd (op_callR (pantomimeref17_Is_ok hy6) call123 rfl (mem_cons (lent_ro (i := 2) rfl rfl) (mem_cons (lent_ro (i := 3) rfl rfl) mem_nil)) pantomimeref17_Is_free) rfl rfl rfl ?_
  rintro _ _ ⟨_, ⟨rfl, rfl⟩, rfl⟩
  refine run ?_
  refine G_cond rfl (fun g7 => ?_) (fun g7 => ?_)
  · replace h := cond_t g7 h
    refine run ?_
    refine G_ev (ev_build rfl (bld_32_)) rfl rfl rfl ?_
    refine G_opn (op_store (us := [.int .i64 0, .int .i64 0, .int .i64 0, .int .i64 0, .slice none 0 0, .slice none 0 0]) (cs' := [.int .i64 0, .int .i64 0, .int .i64 0, .int .i64 0, .slice none 0 0, .slice none 0 0]) 0 rfl rfl rfl rfl size32 rfl rfl rfl) rfl rfl ?_
    rintro _ _ rfl
    refine G_norm ([boxC B5 32 [.int .i64 0, .int .i64 0, .int .i64 0, .int .i64 0, .slice none 0 0, .slice none 0 0], boxC B4 32 [.int .i64 a0.Kind, .int .i64 a0.Shape, .int .i64 a0.Flags, .int .i64 a0.Age, .slice A1 n1 c1, .slice A2 n2 c2], slC rDValue (.slice A1 n1 c1) a0.Slots, slC rDValue (.slice A2 n2 c2) a0.More, slC (rInt .i64) (.slice A3 n3 c3) a1]) rfl ?_
    refine run ?_
    obtain rfl := Option.some.inj h
    exact endGl (rs := [.cell 4 32]) (vs := [.agg #[.int .i64 0, .int .i64 0, .int .i64 0, .int .i64 0, .slice none 0 0, .slice none 0 0]]) rfl (.cons (rv_boxS 0 rfl rfl agg32) .nil) rfl ((cv_nil rDValue 38 _).trans ((cv_nil rDValue 38 _).trans (cv_sel [1, 0] 7 rfl rfl))) ⟨_, _, _, _, _, _, rfl, rfl⟩
  · replace h := cond_f g7 h
    refine run ?_
    refine G_joinF (fun s L => ∃ (p11 : (List Bool)) (A11 : Option Addr) (n11 c11 : Nat), pantomimeref17_Clean_j10 N a0 p11 = some r ∧ s = [(2, .pointer (some ⟨B4, 0, none⟩)), (4, .pointer (some ⟨B5, 0, none⟩)), (5, .slice A11 n11 c11)] ∧ L = [ownC rBool 4 (.slice A11 n11 c11) p11, slC rDValue (.slice A1 n1 c1) a0.Slots, slC rDValue (.slice A2 n2 c2) a0.More, boxC B4 32 [.int .i64 a0.Kind, .int .i64 a0.Shape, .int .i64 a0.Flags, .int .i64 a0.Age, .slice A1 n1 c1, .slice A2 n2 c2], boxC B5 32 [.int .i64 0, .int .i64 0, .int .i64 0, .int .i64 0, .slice none 0 0, .slice none 0 0]]) ?_ ?_
    · refine run ?_
      refine G_loopF (fun m s L => ∃ (p13 : (List Bool)) (p14 : Int) (A13 : Option Addr) (n13 c13 : Nat), pantomimeref17_Clean_l12 N a1 a0 m p13 p14 = some r ∧ s = [(1, .slice A3 n3 c3), (2, .pointer (some ⟨B4, 0, none⟩)), (4, .pointer (some ⟨B5, 0, none⟩)), (5, .slice A13 n13 c13), (6, .int .i64 p14)] ∧ L = [slC (rInt .i64) (.slice A3 n3 c3) a1, ownC rBool 4 (.slice A13 n13 c13) p13, slC rDValue (.slice A1 n1 c1) a0.Slots, slC rDValue (.slice A2 n2 c2) a0.More, boxC B4 32 [.int .i64 a0.Kind, .int .i64 a0.Shape, .int .i64 a0.Flags, .int .i64 a0.Age, .slice A1 n1 c1, .slice A2 n2 c2], boxC B5 32 [.int .i64 0, .int .i64 0, .int .i64 0, .int .i64 0, .slice none 0 0, .slice none 0 0]]) N _ _ ⟨[], 0, none, 0, 0, h, rfl, rfl⟩ (sub_cons rfl (sub_cons rfl (sub_cons rfl (sub_cons rfl (sub_cons rfl sub_nil))))) ((cv_nil rBool 4 _).trans (cv_sel [5, 0, 3, 4, 2, 1] 6 rfl rfl)) ?_
      rintro (_ | m12) _ _ ⟨p13, p14, A13, n13, c13, h, rfl, rfl⟩
      · exact none_some h
      rw [pantomimeref17_Clean_l12_s] at h
      refine G_seq ?_
      refine run ?_
      refine G_rd (rd_len 3 rfl els_sl rfl Tryz.underlying25) rfl rfl rfl ?_
      refine run ?_
      refine G_cond rfl (fun g16 => ?_) (fun g16 => ?_)
      · replace h := cond_t g16 h
        refine run ?_
        refine G_seq ?_
        refine run ?_
        obtain ⟨x17, hx17, h⟩ := bind_elim h
        obtain ⟨lx17, ux17, hx17⟩ := getE_elim hx17
        refine G_rd (rd_idx 3 rfl els_sl rfl rfl Tryz.underlying25 size38 lx17 ux17) rfl rfl rfl ?_
        refine G_rd (rd_fa 3 rfl els_sl rfl (toNat_lt lx17 ux17) fa_38_1) rfl rfl rfl ?_
        refine G_rd (rd_elem1 (u := .int .i64 x17.N) 3 rfl els_sl rfl hx17 one3 (fun _ _ _ h => by rw [show _ = _ from h]; rfl)) rfl rfl rfl ?_
        refine run ?_
        obtain ⟨y18, hy18, h⟩ := bind_elim h
        refine G_opd (op_callR (pantomimeref17_In_ok hy18) call42 rfl (mem_cons (lent_ro (i := 0) rfl rfl) mem_nil) pantomimeref17_In_free) rfl rfl rfl ?_
        rintro _ _ ⟨_, ⟨rfl, rfl⟩, rfl⟩
        refine G_opd (op_bslice (R := rBool) (vss := [[.bool y18]]) (xs := [y18]) rfl (bsl_139_1 _) rfl rfl (fun _ _ hr => .cons rfl All2.nil)) rfl rfl rfl ?_
        rintro _ _ ⟨A19, n19, c19, rfl, rfl⟩
        obtain ⟨q20, h⟩ := req_elim h
        refine G_opd (op_append 2 0 rfl rfl els_own rfl rfl Tryz.underlying139 zb4 rfl rfl q20) rfl rfl rfl ?_
        rintro _ _ ⟨A21, n21, c21, rfl, rfl⟩
        refine G_norm ([ownC rBool 4 (.slice A19 n19 c19) ([y18] : List Bool), slC (rInt .i64) (.slice A3 n3 c3) a1, ownC rBool 4 (.slice A21 n21 c21) (p13 ++ ([y18] : List Bool)), slC rDValue (.slice A1 n1 c1) a0.Slots, slC rDValue (.slice A2 n2 c2) a0.More, boxC B4 32 [.int .i64 a0.Kind, .int .i64 a0.Shape, .int .i64 a0.Flags, .int .i64 a0.Age, .slice A1 n1 c1, .slice A2 n2 c2], boxC B5 32 [.int .i64 0, .int .i64 0, .int .i64 0, .int .i64 0, .slice none 0 0, .slice none 0 0]]) rfl ?_
        refine run ?_
        obtain ⟨q22, h⟩ := req_elim h
        refine G_ev (ev_add rfl rfl q22.1 q22.2) rfl rfl rfl ?_
        refine run ?_
        exact ⟨m12, _, _, Nat.lt_succ_self _, ⟨p13 ++ ([y18] : List Bool), p14 + 2, A21, n21, c21, h, rfl, rfl⟩, sub_cons rfl (sub_cons rfl (sub_cons rfl (sub_cons rfl (sub_cons rfl sub_nil)))), cv_sel [1, 2, 3, 4, 5, 6] 7 rfl rfl⟩
      · replace h := cond_f g16 h
        refine run ?_
        exact ⟨_, _, ⟨p13, A13, n13, c13, h, rfl, rfl⟩, sub_cons rfl (sub_cons rfl (sub_cons rfl sub_nil)), cv_sel [1, 2, 3, 4, 5] 6 rfl rfl⟩
    · rintro _ _ ⟨p11, A11, n11, c11, h, rfl, rfl⟩
      refine run ?_
      refine G_rd (rd_boxS (us := [.int .i64 a0.Kind, .int .i64 a0.Shape, .int .i64 a0.Flags, .int .i64 a0.Age, .slice A1 n1 c1, .slice A2 n2 c2]) 3 rfl rfl agg32 rfl) rfl rfl rfl ?_
      refine run ?_
      obtain ⟨y23, hy23, h⟩ := bind_elim h
      refine G_cv (cv_frz 0 rfl) ?_
      refine G_norm ([slC rBool (.slice A11 n11 c11) p11, slC rDValue (.slice A1 n1 c1) a0.Slots, slC rDValue (.slice A2 n2 c2) a0.More, boxC B4 32 [.int .i64 a0.Kind, .int .i64 a0.Shape, .int .i64 a0.Flags, .int .i64 a0.Age, .slice A1 n1 c1, .slice A2 n2 c2], boxC B5 32 [.int .i64 0, .int .i64 0, .int .i64 0, .int .i64 0, .slice none 0 0, .slice none 0 0]]) rfl ?_
      refine G_opd (op_call (pantomimeref17_without_ok hy23) call138 rfl (cv_take [1, 2, 0] [] [0, 1, 2, 3, 4] 5 rfl)) rfl rfl rfl ?_
      rintro _ _ ⟨_, ⟨A24, n24, c24, A25, n25, c25, rfl, rfl⟩, rfl⟩
      refine G_norm ([ownC rDValue 38 (.slice A24 n24 c24) y23.Slots, ownC rDValue 38 (.slice A25 n25 c25) y23.More, slC rBool (.slice A11 n11 c11) p11, slC rDValue (.slice A1 n1 c1) a0.Slots, slC rDValue (.slice A2 n2 c2) a0.More, boxC B4 32 [.int .i64 a0.Kind, .int .i64 a0.Shape, .int .i64 a0.Flags, .int .i64 a0.Age, .slice A1 n1 c1, .slice A2 n2 c2], boxC B5 32 [.int .i64 0, .int .i64 0, .int .i64 0, .int .i64 0, .slice none 0 0, .slice none 0 0]]) rfl ?_
      refine G_opn (op_store (us := [.int .i64 y23.Kind, .int .i64 y23.Shape, .int .i64 y23.Flags, .int .i64 y23.Age, .slice A24 n24 c24, .slice A25 n25 c25]) (cs' := [.int .i64 y23.Kind, .int .i64 y23.Shape, .int .i64 y23.Flags, .int .i64 y23.Age, .slice A24 n24 c24, .slice A25 n25 c25]) 6 rfl rfl rfl rfl size32 rfl rfl rfl) rfl rfl ?_
      rintro _ _ rfl
      refine G_norm ([ownC rDValue 38 (.slice A24 n24 c24) y23.Slots, ownC rDValue 38 (.slice A25 n25 c25) y23.More, slC rBool (.slice A11 n11 c11) p11, slC rDValue (.slice A1 n1 c1) a0.Slots, slC rDValue (.slice A2 n2 c2) a0.More, boxC B4 32 [.int .i64 a0.Kind, .int .i64 a0.Shape, .int .i64 a0.Flags, .int .i64 a0.Age, .slice A1 n1 c1, .slice A2 n2 c2], boxC B5 32 [.int .i64 y23.Kind, .int .i64 y23.Shape, .int .i64 y23.Flags, .int .i64 y23.Age, .slice A24 n24 c24, .slice A25 n25 c25]]) rfl ?_
      refine run ?_
      obtain rfl := Option.some.inj h
      exact endGl (rs := [.cell 4 32]) (vs := [.agg #[.int .i64 y23.Kind, .int .i64 y23.Shape, .int .i64 y23.Flags, .int .i64 y23.Age, .slice A24 n24 c24, .slice A25 n25 c25]]) rfl (.cons (rv_boxS 6 rfl rfl agg32) .nil) rfl (cv_sel [0, 1] 7 rfl rfl) ⟨_, _, _, _, _, _, rfl, rfl⟩
def pantomimeref19_cleaned_O (N : Nat) (a0 : DCell) (a1 : (List Int)) : Option DCell :=
  (bif decide (a0.Kind = 8) then ((pantomimeref15_Right_O N a0).bind fun y7 => some y7) else (some false)).bind fun b6 => bif b6 then ((pantomimeref17_Clean_O N a0 a1).bind fun y9 => some y9) else (some a0)
theorem pantomimeref19_cleaned_ok {N : Nat} {a0 : DCell} {a1 : (List Int)} {r : DCell} (h : pantomimeref19_cleaned_O N a0 a1 = some r) {A1 : Option Addr} {n1 c1 : Nat} {A2 : Option Addr} {n2 c2 : Nat} {A3 : Option Addr} {n3 c3 : Nat} : Okc Tryz.prog 75 [.agg #[.int .i64 a0.Kind, .int .i64 a0.Shape, .int .i64 a0.Flags, .int .i64 a0.Age, .slice A1 n1 c1, .slice A2 n2 c2], .slice A3 n3 c3] ([slC rDValue (.slice A1 n1 c1) a0.Slots, slC rDValue (.slice A2 n2 c2) a0.More, slC (rInt .i64) (.slice A3 n3 c3) a1]) (fun (u : Value) (post : List Chunk) => ∃ A0 n0 c0 A1 n1 c1, u = .agg #[.int .i64 r.Kind, .int .i64 r.Shape, .int .i64 r.Flags, .int .i64 r.Age, .slice A0 n0 c0, .slice A1 n1 c1] ∧ post = [slC rDValue (.slice A0 n0 c0) r.Slots, slC rDValue (.slice A1 n1 c1) r.More]) := by
  refine ok_E Tryz.func75 rfl rfl ?_
  simp only [envOf]
  refine run ?_
  refine G_opd (op_box rfl rfl) rfl rfl rfl ?_
  rintro _ _ ⟨B4, rfl, rfl⟩
  refine G_opd (op_alloc zero32 rfl) rfl rfl rfl ?_
  rintro _ _ ⟨B5, rfl, rfl⟩
  refine run ?_
  refine G_seq ?_
  refine run ?_
  obtain ⟨b6, hb6, h⟩ := bind_elim h
  refine G_segb 3 11 b6 ?_ ?_
  · clear h
    refine G_case 8 rfl (fun g6 => ?_) (fun g6 => ?_)
    · have h := cond_t g6 hb6
      refine G_rd (rd_boxS (us := [.int .i64 a0.Kind, .int .i64 a0.Shape, .int .i64 a0.Flags, .int .i64 a0.Age, .slice A1 n1 c1, .slice A2 n2 c2]) 1 rfl rfl agg32 rfl) rfl (g_tt g6 rfl) rfl ?_
      obtain ⟨y7, hy7, h⟩ := bind_elim h
      refine G_opd (op_callR (pantomimeref15_Right_ok hy7) call92 rfl (mem_cons (lent_ro (i := 2) rfl rfl) (mem_cons (lent_ro (i := 3) rfl rfl) mem_nil)) pantomimeref15_Right_free) rfl (g_tt g6 rfl) rfl ?_
      rintro _ _ ⟨_, ⟨rfl, rfl⟩, rfl⟩
      refine run ?_
      obtain rfl := Option.some.inj h
      exact G_joined (sub_cons rfl (sub_skip (sub_skip (sub_skip sub_refl rfl) rfl) rfl)) (cv_sel [0, 1, 2, 3, 4] 5 rfl rfl)
    · have h := cond_f g6 hb6
      refine run ?_
      obtain rfl := Option.some.inj h
      exact G_joined (sub_cons rfl (sub_skip (sub_skip (sub_skip sub_refl rfl) rfl) rfl)) (cv_sel [0, 1, 2, 3, 4] 5 rfl rfl)
  refine run ?_
  refine G_cond rfl (fun g8 => ?_) (fun g8 => ?_)
  · replace h := cond_t g8 h
    refine run ?_
    refine G_rd (rd_boxS (us := [.int .i64 a0.Kind, .int .i64 a0.Shape, .int .i64 a0.Flags, .int .i64 a0.Age, .slice A1 n1 c1, .slice A2 n2 c2]) 1 rfl rfl agg32 rfl) rfl rfl rfl ?_
    refine run ?_
    obtain ⟨y9, hy9, h⟩ := bind_elim h
    refine G_opd (op_call (pantomimeref17_Clean_ok hy9) call84 rfl (cv_take [2, 3, 4] [] [0, 1, 2, 3, 4] 5 rfl)) rfl rfl rfl ?_
    rintro _ _ ⟨_, ⟨A10, n10, c10, A11, n11, c11, rfl, rfl⟩, rfl⟩
    refine G_norm ([ownC rDValue 38 (.slice A10 n10 c10) y9.Slots, ownC rDValue 38 (.slice A11 n11 c11) y9.More, boxC B5 32 [.int .i64 0, .int .i64 0, .int .i64 0, .int .i64 0, .slice none 0 0, .slice none 0 0], boxC B4 32 [.int .i64 a0.Kind, .int .i64 a0.Shape, .int .i64 a0.Flags, .int .i64 a0.Age, .slice A1 n1 c1, .slice A2 n2 c2], slC rDValue (.slice A1 n1 c1) a0.Slots, slC rDValue (.slice A2 n2 c2) a0.More, slC (rInt .i64) (.slice A3 n3 c3) a1]) rfl ?_
    refine G_opn (op_store (us := [.int .i64 y9.Kind, .int .i64 y9.Shape, .int .i64 y9.Flags, .int .i64 y9.Age, .slice A10 n10 c10, .slice A11 n11 c11]) (cs' := [.int .i64 y9.Kind, .int .i64 y9.Shape, .int .i64 y9.Flags, .int .i64 y9.Age, .slice A10 n10 c10, .slice A11 n11 c11]) 2 rfl rfl rfl rfl size32 rfl rfl rfl) rfl rfl ?_
    rintro _ _ rfl
    refine G_norm ([ownC rDValue 38 (.slice A10 n10 c10) y9.Slots, ownC rDValue 38 (.slice A11 n11 c11) y9.More, boxC B5 32 [.int .i64 y9.Kind, .int .i64 y9.Shape, .int .i64 y9.Flags, .int .i64 y9.Age, .slice A10 n10 c10, .slice A11 n11 c11], boxC B4 32 [.int .i64 a0.Kind, .int .i64 a0.Shape, .int .i64 a0.Flags, .int .i64 a0.Age, .slice A1 n1 c1, .slice A2 n2 c2], slC rDValue (.slice A1 n1 c1) a0.Slots, slC rDValue (.slice A2 n2 c2) a0.More, slC (rInt .i64) (.slice A3 n3 c3) a1]) rfl ?_
    refine run ?_
    obtain rfl := Option.some.inj h
    exact endGl (rs := [.cell 4 32]) (vs := [.agg #[.int .i64 y9.Kind, .int .i64 y9.Shape, .int .i64 y9.Flags, .int .i64 y9.Age, .slice A10 n10 c10, .slice A11 n11 c11]]) rfl (.cons (rv_boxS 2 rfl rfl agg32) .nil) rfl ((cv_frz 0 rfl).trans ((cv_frz 1 rfl).trans (cv_sel [0, 1] 7 rfl rfl))) ⟨_, _, _, _, _, _, rfl, rfl⟩
  · replace h := cond_f g8 h
    refine run ?_
    refine G_rd (rd_boxS (us := [.int .i64 a0.Kind, .int .i64 a0.Shape, .int .i64 a0.Flags, .int .i64 a0.Age, .slice A1 n1 c1, .slice A2 n2 c2]) 1 rfl rfl agg32 rfl) rfl rfl rfl ?_
    refine G_opn (op_store (us := [.int .i64 a0.Kind, .int .i64 a0.Shape, .int .i64 a0.Flags, .int .i64 a0.Age, .slice A1 n1 c1, .slice A2 n2 c2]) (cs' := [.int .i64 a0.Kind, .int .i64 a0.Shape, .int .i64 a0.Flags, .int .i64 a0.Age, .slice A1 n1 c1, .slice A2 n2 c2]) 0 rfl rfl rfl rfl size32 rfl rfl rfl) rfl rfl ?_
    rintro _ _ rfl
    refine G_norm ([boxC B5 32 [.int .i64 a0.Kind, .int .i64 a0.Shape, .int .i64 a0.Flags, .int .i64 a0.Age, .slice A1 n1 c1, .slice A2 n2 c2], boxC B4 32 [.int .i64 a0.Kind, .int .i64 a0.Shape, .int .i64 a0.Flags, .int .i64 a0.Age, .slice A1 n1 c1, .slice A2 n2 c2], slC rDValue (.slice A1 n1 c1) a0.Slots, slC rDValue (.slice A2 n2 c2) a0.More, slC (rInt .i64) (.slice A3 n3 c3) a1]) rfl ?_
    refine run ?_
    obtain rfl := Option.some.inj h
    exact endGl (rs := [.cell 4 32]) (vs := [.agg #[.int .i64 a0.Kind, .int .i64 a0.Shape, .int .i64 a0.Flags, .int .i64 a0.Age, .slice A1 n1 c1, .slice A2 n2 c2]]) rfl (.cons (rv_boxS 0 rfl rfl agg32) .nil) rfl (cv_sel [2, 3] 5 rfl rfl) ⟨_, _, _, _, _, _, rfl, rfl⟩
def pantomimeref19_Alike_j22 (N : Nat) : Option Bool :=
  some true
def pantomimeref19_Alike_l23 (N : Nat) : Nat → Int → (List DCell) → (List DCell) → (List Int) → (List DCell) → (List DCell) → (List Int) → Option Bool
  | 0, _, _, _, _, _, _, _ => none
  | m23 + 1, p24, p25, p26, p27, p28, p29, p30 => bif decide (p24 < (p27.length : Int)) then ((getE p27 p24).bind fun x32 => (pantomimeref19_At_O N (⟨p25, p26⟩ : DMemory) x32).bind fun y33 => (pantomimeref19_cleaned_O N y33 p27).bind fun y38 => (getE p30 p24).bind fun x45 => (pantomimeref19_At_O N (⟨p28, p29⟩ : DMemory) x45).bind fun y46 => (pantomimeref19_cleaned_O N y46 p30).bind fun y51 => (bif !decide (y38.Kind = y51.Kind) then (some true) else (some (!decide (y38.Shape = y51.Shape)))).bind fun b58 => (bif b58 then (some true) else (some (!decide (y38.Flags = y51.Flags)))).bind fun b59 => (bif b59 then (some true) else ((pantomimeref19_values_O N (⟨(⟨p25, p26⟩ : DMemory), p27⟩ : DSide) y38.Slots (⟨(⟨p28, p29⟩ : DMemory), p30⟩ : DSide) y51.Slots).bind fun y61 => some (!y61))).bind fun b60 => (bif b60 then (some true) else ((pantomimeref19_values_O N (⟨(⟨p25, p26⟩ : DMemory), p27⟩ : DSide) y38.More (⟨(⟨p28, p29⟩ : DMemory), p30⟩ : DSide) y51.More).bind fun y63 => some (!y63))).bind fun b62 => bif b62 then (some false) else (req (in64 (p24 + 1)) ((pantomimeref19_Alike_l23 N m23) (p24 + 1) p25 p26 p27 p28 p29 p30))) else (pantomimeref19_Alike_j22 N)
theorem pantomimeref19_Alike_l23_s {N m23 : Nat} {p24 : Int} {p25 : (List DCell)} {p26 : (List DCell)} {p27 : (List Int)} {p28 : (List DCell)} {p29 : (List DCell)} {p30 : (List Int)} : pantomimeref19_Alike_l23 N (m23 + 1) p24 p25 p26 p27 p28 p29 p30 = bif decide (p24 < (p27.length : Int)) then ((getE p27 p24).bind fun x32 => (pantomimeref19_At_O N (⟨p25, p26⟩ : DMemory) x32).bind fun y33 => (pantomimeref19_cleaned_O N y33 p27).bind fun y38 => (getE p30 p24).bind fun x45 => (pantomimeref19_At_O N (⟨p28, p29⟩ : DMemory) x45).bind fun y46 => (pantomimeref19_cleaned_O N y46 p30).bind fun y51 => (bif !decide (y38.Kind = y51.Kind) then (some true) else (some (!decide (y38.Shape = y51.Shape)))).bind fun b58 => (bif b58 then (some true) else (some (!decide (y38.Flags = y51.Flags)))).bind fun b59 => (bif b59 then (some true) else ((pantomimeref19_values_O N (⟨(⟨p25, p26⟩ : DMemory), p27⟩ : DSide) y38.Slots (⟨(⟨p28, p29⟩ : DMemory), p30⟩ : DSide) y51.Slots).bind fun y61 => some (!y61))).bind fun b60 => (bif b60 then (some true) else ((pantomimeref19_values_O N (⟨(⟨p25, p26⟩ : DMemory), p27⟩ : DSide) y38.More (⟨(⟨p28, p29⟩ : DMemory), p30⟩ : DSide) y51.More).bind fun y63 => some (!y63))).bind fun b62 => bif b62 then (some false) else (req (in64 (p24 + 1)) ((pantomimeref19_Alike_l23 N m23) (p24 + 1) p25 p26 p27 p28 p29 p30))) else (pantomimeref19_Alike_j22 N) := rfl
def pantomimeref19_Alike_O (N : Nat) (a0 : DMemory) (a1 : (List DValue)) (a2 : DMemory) (a3 : (List DValue)) : Option Bool :=
  (pantomimeref19_side_O N a0 a1).bind fun y9 => (pantomimeref19_side_O N a2 a3).bind fun y14 => (bif !decide ((y9.Order.length : Int) = (y14.Order.length : Int)) then (some true) else ((pantomimeref19_values_O N y9 a1 y14 a3).bind fun y20 => some (!y20))).bind fun b19 => bif b19 then (some false) else (pantomimeref19_Alike_l23 N N 0 y9.M.Young y9.M.Old y9.Order y14.M.Young y14.M.Old y14.Order)
set_option maxHeartbeats 4000000 in
theorem pantomimeref19_Alike_ok {N : Nat} {a0 : DMemory} {a1 : (List DValue)} {a2 : DMemory} {a3 : (List DValue)} {r : Bool} (h : pantomimeref19_Alike_O N a0 a1 a2 a3 = some r) {A1 : Option Addr} {n1 c1 : Nat} {A2 : Option Addr} {n2 c2 : Nat} {A3 : Option Addr} {n3 c3 : Nat} {A4 : Option Addr} {n4 c4 : Nat} {A5 : Option Addr} {n5 c5 : Nat} {A6 : Option Addr} {n6 c6 : Nat} : Okc Tryz.prog 29 [.agg #[.slice A1 n1 c1, .slice A2 n2 c2], .slice A3 n3 c3, .agg #[.slice A4 n4 c4, .slice A5 n5 c5], .slice A6 n6 c6] ([slC rDCell (.slice A1 n1 c1) a0.Young, slC rDCell (.slice A2 n2 c2) a0.Old, slC rDValue (.slice A3 n3 c3) a1, slC rDCell (.slice A4 n4 c4) a2.Young, slC rDCell (.slice A5 n5 c5) a2.Old, slC rDValue (.slice A6 n6 c6) a3]) (fun (u : Value) (post : List Chunk) => u = .bool r ∧ post = []) := by
  refine ok_E Tryz.func29 rfl rfl ?_
  simp only [envOf]
  refine run ?_
  refine G_opd (op_box rfl rfl) rfl rfl rfl ?_
  rintro _ _ ⟨B7, rfl, rfl⟩
  refine G_opd (op_box rfl rfl) rfl rfl rfl ?_
  rintro _ _ ⟨B8, rfl, rfl⟩
  refine run ?_
  refine G_rd (rd_boxS (us := [.slice A1 n1 c1, .slice A2 n2 c2]) 1 rfl rfl agg24 rfl) rfl rfl rfl ?_
  refine run ?_
  obtain ⟨y9, hy9, h⟩ := bind_elim h
  refine G_opd (op_call (pantomimeref19_side_ok hy9) call73 rfl (cv_take [2, 3, 4] [] [0, 1, 2, 3, 4, 5, 6, 7] 8 rfl)) rfl rfl rfl ?_
  rintro _ _ ⟨_, ⟨A10, n10, c10, A11, n11, c11, A12, n12, c12, rfl, rfl⟩, rfl⟩
  refine G_norm ([ownC rDCell 32 (.slice A10 n10 c10) y9.M.Young, ownC rDCell 32 (.slice A11 n11 c11) y9.M.Old, ownC (rInt .i64) 3 (.slice A12 n12 c12) y9.Order, boxC B8 24 [.slice A4 n4 c4, .slice A5 n5 c5], boxC B7 24 [.slice A1 n1 c1, .slice A2 n2 c2], slC rDCell (.slice A1 n1 c1) a0.Young, slC rDCell (.slice A2 n2 c2) a0.Old, slC rDValue (.slice A3 n3 c3) a1, slC rDCell (.slice A4 n4 c4) a2.Young, slC rDCell (.slice A5 n5 c5) a2.Old, slC rDValue (.slice A6 n6 c6) a3]) rfl ?_
  refine G_opd (op_alloc zero93 rfl) rfl rfl rfl ?_
  rintro _ _ ⟨B13, rfl, rfl⟩
  refine G_opn (op_store (us := [.slice A10 n10 c10, .slice A11 n11 c11, .slice A12 n12 c12]) (cs' := [.slice A10 n10 c10, .slice A11 n11 c11, .slice A12 n12 c12]) 0 rfl rfl rfl rfl size93 rfl rfl rfl) rfl rfl ?_
  rintro _ _ rfl
  refine G_norm ([boxC B13 93 [.slice A10 n10 c10, .slice A11 n11 c11, .slice A12 n12 c12], ownC rDCell 32 (.slice A10 n10 c10) y9.M.Young, ownC rDCell 32 (.slice A11 n11 c11) y9.M.Old, ownC (rInt .i64) 3 (.slice A12 n12 c12) y9.Order, boxC B8 24 [.slice A4 n4 c4, .slice A5 n5 c5], boxC B7 24 [.slice A1 n1 c1, .slice A2 n2 c2], slC rDCell (.slice A1 n1 c1) a0.Young, slC rDCell (.slice A2 n2 c2) a0.Old, slC rDValue (.slice A3 n3 c3) a1, slC rDCell (.slice A4 n4 c4) a2.Young, slC rDCell (.slice A5 n5 c5) a2.Old, slC rDValue (.slice A6 n6 c6) a3]) rfl ?_
  refine run ?_
  refine G_rd (rd_boxS (us := [.slice A4 n4 c4, .slice A5 n5 c5]) 4 rfl rfl agg24 rfl) rfl rfl rfl ?_
  refine run ?_
  obtain ⟨y14, hy14, h⟩ := bind_elim h
  refine G_opd (op_call (pantomimeref19_side_ok hy14) call73 rfl (cv_take [9, 10, 11] [] [0, 1, 2, 3, 4, 5, 6, 7, 8, 9, 10, 11] 12 rfl)) rfl rfl rfl ?_
  rintro _ _ ⟨_, ⟨A15, n15, c15, A16, n16, c16, A17, n17, c17, rfl, rfl⟩, rfl⟩
  refine G_norm ([ownC rDCell 32 (.slice A15 n15 c15) y14.M.Young, ownC rDCell 32 (.slice A16 n16 c16) y14.M.Old, ownC (rInt .i64) 3 (.slice A17 n17 c17) y14.Order, boxC B13 93 [.slice A10 n10 c10, .slice A11 n11 c11, .slice A12 n12 c12], ownC rDCell 32 (.slice A10 n10 c10) y9.M.Young, ownC rDCell 32 (.slice A11 n11 c11) y9.M.Old, ownC (rInt .i64) 3 (.slice A12 n12 c12) y9.Order, boxC B8 24 [.slice A4 n4 c4, .slice A5 n5 c5], boxC B7 24 [.slice A1 n1 c1, .slice A2 n2 c2], slC rDCell (.slice A1 n1 c1) a0.Young, slC rDCell (.slice A2 n2 c2) a0.Old, slC rDValue (.slice A3 n3 c3) a1, slC rDCell (.slice A4 n4 c4) a2.Young, slC rDCell (.slice A5 n5 c5) a2.Old, slC rDValue (.slice A6 n6 c6) a3]) rfl ?_
  refine G_opd (op_alloc zero93 rfl) rfl rfl rfl ?_
  rintro _ _ ⟨B18, rfl, rfl⟩
  refine G_opn (op_store (us := [.slice A15 n15 c15, .slice A16 n16 c16, .slice A17 n17 c17]) (cs' := [.slice A15 n15 c15, .slice A16 n16 c16, .slice A17 n17 c17]) 0 rfl rfl rfl rfl size93 rfl rfl rfl) rfl rfl ?_
  rintro _ _ rfl
  refine G_norm ([boxC B18 93 [.slice A15 n15 c15, .slice A16 n16 c16, .slice A17 n17 c17], ownC rDCell 32 (.slice A15 n15 c15) y14.M.Young, ownC rDCell 32 (.slice A16 n16 c16) y14.M.Old, ownC (rInt .i64) 3 (.slice A17 n17 c17) y14.Order, boxC B13 93 [.slice A10 n10 c10, .slice A11 n11 c11, .slice A12 n12 c12], ownC rDCell 32 (.slice A10 n10 c10) y9.M.Young, ownC rDCell 32 (.slice A11 n11 c11) y9.M.Old, ownC (rInt .i64) 3 (.slice A12 n12 c12) y9.Order, boxC B8 24 [.slice A4 n4 c4, .slice A5 n5 c5], boxC B7 24 [.slice A1 n1 c1, .slice A2 n2 c2], slC rDCell (.slice A1 n1 c1) a0.Young, slC rDCell (.slice A2 n2 c2) a0.Old, slC rDValue (.slice A3 n3 c3) a1, slC rDCell (.slice A4 n4 c4) a2.Young, slC rDCell (.slice A5 n5 c5) a2.Old, slC rDValue (.slice A6 n6 c6) a3]) rfl ?_
  refine run ?_
  refine G_seq ?_
  refine run ?_
  refine G_rd (rd_len 7 rfl els_own rfl Tryz.underlying35) rfl rfl rfl ?_
  refine run ?_
  refine G_rd (rd_len 3 rfl els_own rfl Tryz.underlying35) rfl rfl rfl ?_
  refine run ?_
  obtain ⟨b19, hb19, h⟩ := bind_elim h
  refine G_segb 7 34 b19 ?_ ?_
  · clear h
    refine G_case 27 rfl (fun g19 => ?_) (fun g19 => ?_)
    · have h := cond_t g19 hb19
      refine run ?_
      obtain rfl := Option.some.inj h
      exact G_joined (sub_cons rfl (sub_skip (sub_skip (sub_skip (sub_skip (sub_skip (sub_skip (sub_skip sub_refl rfl) rfl) rfl) rfl) rfl) rfl) rfl)) (cv_sel [0, 1, 2, 3, 4, 5, 6, 7, 8, 9, 10, 11, 12, 13, 14, 15] 16 rfl rfl)
    · have h := cond_f g19 hb19
      refine G_rd (rd_boxS (us := [.slice A10 n10 c10, .slice A11 n11 c11, .slice A12 n12 c12]) 4 rfl rfl agg93 rfl) rfl (g_ff g19 rfl) rfl ?_
      refine run ?_
      refine G_rd (rd_boxS (us := [.slice A15 n15 c15, .slice A16 n16 c16, .slice A17 n17 c17]) 0 rfl rfl agg93 rfl) rfl (g_ff g19 rfl) rfl ?_
      refine run ?_
      obtain ⟨y20, hy20, h⟩ := bind_elim h
      refine G_opd (op_callR (pantomimeref19_values_ok hy20) call74 rfl (mem_cons (lent_own (i := 5) rfl) (mem_cons (lent_own (i := 6) rfl) (mem_cons (lent_own (i := 7) rfl) (mem_cons (lent_ro (i := 12) rfl rfl) (mem_cons (lent_own (i := 1) rfl) (mem_cons (lent_own (i := 2) rfl) (mem_cons (lent_own (i := 3) rfl) (mem_cons (lent_ro (i := 15) rfl rfl) mem_nil)))))))) pantomimeref19_values_free) rfl (g_ff g19 rfl) rfl ?_
      rintro _ _ ⟨_, ⟨rfl, rfl⟩, rfl⟩
      refine run ?_
      obtain rfl := Option.some.inj h
      exact G_joined (sub_cons rfl (sub_skip (sub_skip (sub_skip (sub_skip (sub_skip (sub_skip (sub_skip sub_refl rfl) rfl) rfl) rfl) rfl) rfl) rfl)) (cv_sel [0, 1, 2, 3, 4, 5, 6, 7, 8, 9, 10, 11, 12, 13, 14, 15] 16 rfl rfl)
  refine run ?_
  refine G_cond rfl (fun g21 => ?_) (fun g21 => ?_)
  · replace h := cond_t g21 h
    refine run ?_
    obtain rfl := Option.some.inj h
    exact endG1 rfl rfl (cv_sel [] 16 rfl rfl) ⟨rfl, rfl⟩
  · replace h := cond_f g21 h
    refine run ?_
    refine G_joinF (fun s L => pantomimeref19_Alike_j22 N = some r ∧ s = [(8, .bool false)] ∧ L = []) ?_ ?_
    · refine run ?_
      refine G_loopF (fun m s L => ∃ (p24 : Int) (p25 : (List DCell)) (p26 : (List DCell)) (p27 : (List Int)) (p28 : (List DCell)) (p29 : (List DCell)) (p30 : (List Int)) (A25 : Option Addr) (n25 c25 : Nat) (A26 : Option Addr) (n26 c26 : Nat) (A27 : Option Addr) (n27 c27 : Nat) (A28 : Option Addr) (n28 c28 : Nat) (A29 : Option Addr) (n29 c29 : Nat) (A30 : Option Addr) (n30 c30 : Nat), pantomimeref19_Alike_l23 N m p24 p25 p26 p27 p28 p29 p30 = some r ∧ s = [(8, .bool false), (9, .pointer (some ⟨B13, 0, none⟩)), (10, .pointer (some ⟨B18, 0, none⟩)), (11, .int .i64 p24)] ∧ L = [slC rDCell (.slice A25 n25 c25) p25, slC rDCell (.slice A26 n26 c26) p26, slC (rInt .i64) (.slice A27 n27 c27) p27, boxC B13 93 [.slice A25 n25 c25, .slice A26 n26 c26, .slice A27 n27 c27], slC rDCell (.slice A28 n28 c28) p28, slC rDCell (.slice A29 n29 c29) p29, slC (rInt .i64) (.slice A30 n30 c30) p30, boxC B18 93 [.slice A28 n28 c28, .slice A29 n29 c29, .slice A30 n30 c30]]) N _ _ ⟨0, y9.M.Young, y9.M.Old, y9.Order, y14.M.Young, y14.M.Old, y14.Order, A10, n10, c10, A11, n11, c11, A12, n12, c12, A15, n15, c15, A16, n16, c16, A17, n17, c17, h, rfl, rfl⟩ (sub_cons rfl (sub_cons rfl (sub_cons rfl (sub_cons rfl sub_nil)))) ((cv_frz 5 rfl).trans ((cv_frz 6 rfl).trans ((cv_frz 7 rfl).trans ((cv_frz 1 rfl).trans ((cv_frz 2 rfl).trans ((cv_frz 3 rfl).trans (cv_sel [5, 6, 7, 4, 1, 2, 3, 0] 16 rfl rfl))))))) ?_
      rintro (_ | m23) _ _ ⟨p24, p25, p26, p27, p28, p29, p30, A25, n25, c25, A26, n26, c26, A27, n27, c27, A28, n28, c28, A29, n29, c29, A30, n30, c30, h, rfl, rfl⟩
      · exact none_some h
      rw [pantomimeref19_Alike_l23_s] at h
      refine G_seq ?_
      refine run ?_
      refine G_rd (rd_len 2 rfl els_sl rfl Tryz.underlying35) rfl rfl rfl ?_
      refine run ?_
      refine G_cond rfl (fun g31 => ?_) (fun g31 => ?_)
      · replace h := cond_t g31 h
        refine run ?_
        refine G_seq ?_
        refine G_block ?_
        refine G_seq ?_
        obtain ⟨x32, hx32, h⟩ := bind_elim h
        obtain ⟨lx32, ux32, hx32⟩ := getE_elim hx32
        obtain ⟨y33, hy33, h⟩ := bind_elim h
        obtain ⟨y38, hy38, h⟩ := bind_elim h
        refine G_sub (t := [(8, .bool false), (9, .pointer (some ⟨B13, 0, none⟩)), (10, .pointer (some ⟨B18, 0, none⟩)), (11, .int .i64 p24)]) ?_ subT (cv_refl _)
        refine G_monoX (by kernel_rfl) 12 [] [10, 11] [42, 43, 44, 45, 46, 47, 48, 49, 50, 51, 52, 12] [[], [0], [], [2], [], [3, 4], [5], [1, 6], [], [8], [7, 9], []] [aV (.pointer (some ⟨B13, 0, none⟩)),
 aV (.agg #[.slice A25 n25 c25, .slice A26 n26 c26]),
 aV (.pointer (some ⟨B13, 2, none⟩)),
 aV (.slice A27 n27 c27),
 aV (.int .i64 p24),
 aV (elemQ (.slice A27 n27 c27) p24.toNat 1 0),
 aV (.int .i64 x32),
 aX6 (fun (A36 : Option Addr) (n36 c36 : Nat) (A37 : Option Addr) (n37 c37 : Nat) => .agg #[.int .i64 y33.Kind, .int .i64 y33.Shape, .int .i64 y33.Flags, .int .i64 y33.Age, .slice A36 n36 c36, .slice A37 n37 c37]) (fun A36 n36 c36 A37 n37 c37 => [slC rDValue (.slice A36 n36 c36) y33.Slots, slC rDValue (.slice A37 n37 c37) y33.More]),
 aV (.pointer (some ⟨B13, 2, none⟩)),
 aV (.slice A27 n27 c27),
 aX6 (fun (A41 : Option Addr) (n41 c41 : Nat) (A42 : Option Addr) (n42 c42 : Nat) => .agg #[.int .i64 y38.Kind, .int .i64 y38.Shape, .int .i64 y38.Flags, .int .i64 y38.Age, .slice A41 n41 c41, .slice A42 n42 c42]) (fun A41 n41 c41 A42 n42 c42 => [slC rDValue (.slice A41 n41 c41) y38.Slots, slC rDValue (.slice A42 n42 c42) y38.More]),
 aX1 (fun (B44 : Nat) => .pointer (some ⟨B44, 0, none⟩)) (fun B44 => [boxC B44 32 [.int .i64 0, .int .i64 0, .int .i64 0, .int .i64 0, .slice none 0 0, .slice none 0 0]])] [] (cv_refl _) (qB_nil) (by kernel_rfl) rfl rfl ?_ ?_ ?_
        · exact qs_nil
        · refine steps_cons rfl ?_ ?_
          · refine X_op (op_alloc zero32 rfl) rfl ?_
            rintro _ _ ⟨B43, rfl, rfl⟩
            exact cvp1 B43 (cv_refl _)
          refine steps_cons rfl ?_ ?_
          · intro A36 n36 c36 A37 n37 c37
            refine X_op (op_call (pantomimeref19_cleaned_ok hy38) call75 rfl (cv_take [0, 1, 4] [] [0, 1, 2, 3, 4, 5, 6, 7, 8, 9] 10 rfl)) rfl ?_
            rintro _ _ ⟨_, ⟨A39, n39, c39, A40, n40, c40, rfl, rfl⟩, rfl⟩
            exact cvp6 A39 n39 c39 A40 n40 c40 (cv_refl _)
          refine steps_cons rfl ?_ ?_
          · exact X_rd (rd_box1 3 rfl rfl one35 rfl) rfl (cvpV rfl (cv_refl _))
          refine steps_cons rfl ?_ ?_
          · exact X_ev (ev_fa rfl fa_93_1) rfl (cvpV rfl (cv_refl _))
          refine steps_cons rfl ?_ ?_
          · refine X_op (op_call (pantomimeref19_At_ok hy33) call17 rfl (cv_take [0, 1] [] [0, 1, 2, 3, 4, 5, 6, 7] 8 rfl)) rfl ?_
            rintro _ _ ⟨_, ⟨A34, n34, c34, A35, n35, c35, rfl, rfl⟩, rfl⟩
            exact cvp6 A34 n34 c34 A35 n35 c35 (cv_refl _)
          refine steps_cons rfl ?_ ?_
          · exact X_rd (rd_elem1 (u := .int .i64 x32) 2 rfl els_sl rfl hx32 one3 (fun _ _ _ h => by rw [show _ = _ from h]; rfl)) rfl (cvpV rfl (cv_refl _))
          refine steps_cons rfl ?_ ?_
          · exact X_rd (rd_idx 2 rfl els_sl rfl rfl Tryz.underlying35 size3 lx32 ux32) rfl (cvpV rfl (cv_refl _))
          refine steps_cons rfl ?_ ?_
          · exact X_ev (ev_move rfl) rfl (cvpV rfl (cv_refl _))
          refine steps_cons rfl ?_ ?_
          · exact X_rd (rd_box1 3 rfl rfl one35 rfl) rfl (cvpV rfl (cv_refl _))
          refine steps_cons rfl ?_ ?_
          · exact X_ev (ev_fa rfl fa_93_1) rfl (cvpV rfl (cv_refl _))
          refine steps_cons rfl ?_ ?_
          · exact X_rd (rd_boxS (us := [.slice A25 n25 c25, .slice A26 n26 c26]) 3 rfl rfl agg24 rfl) rfl (cvpV rfl (cv_refl _))
          refine steps_cons rfl ?_ ?_
          · exact X_ev (ev_fa0 rfl fa_93_0) rfl (cvpV rfl (cv_refl _))
          exact steps_nil
        · intro A41 n41 c41 A42 n42 c42 B44
          refine N_sub (t := [(52, .agg #[.int .i64 y38.Kind, .int .i64 y38.Shape, .int .i64 y38.Flags, .int .i64 y38.Age, .slice A41 n41 c41, .slice A42 n42 c42]), (12, .pointer (some ⟨B44, 0, none⟩)), (8, .bool false), (9, .pointer (some ⟨B13, 0, none⟩)), (10, .pointer (some ⟨B18, 0, none⟩)), (11, .int .i64 p24)]) (L' := [slC rDValue (.slice A41 n41 c41) y38.Slots, slC rDValue (.slice A42 n42 c42) y38.More, boxC B44 32 [.int .i64 0, .int .i64 0, .int .i64 0, .int .i64 0, .slice none 0 0, .slice none 0 0], slC rDCell (.slice A25 n25 c25) p25, slC rDCell (.slice A26 n26 c26) p26, slC (rInt .i64) (.slice A27 n27 c27) p27, boxC B13 93 [.slice A25 n25 c25, .slice A26 n26 c26, .slice A27 n27 c27], slC rDCell (.slice A28 n28 c28) p28, slC rDCell (.slice A29 n29 c29) p29, slC (rInt .i64) (.slice A30 n30 c30) p30, boxC B18 93 [.slice A28 n28 c28, .slice A29 n29 c29, .slice A30 n30 c30]]) ?_ subT (cv_refl _)
          refine N_opn 12 rfl (by kernel_rfl) (op_store (us := [.int .i64 y38.Kind, .int .i64 y38.Shape, .int .i64 y38.Flags, .int .i64 y38.Age, .slice A41 n41 c41, .slice A42 n42 c42]) (cs' := [.int .i64 y38.Kind, .int .i64 y38.Shape, .int .i64 y38.Flags, .int .i64 y38.Age, .slice A41 n41 c41, .slice A42 n42 c42]) 2 rfl rfl rfl rfl size32 rfl rfl rfl) rfl rfl ?_
          rintro _ _ rfl
          refine N_norm ([slC rDValue (.slice A41 n41 c41) y38.Slots, slC rDValue (.slice A42 n42 c42) y38.More, boxC B44 32 [.int .i64 y38.Kind, .int .i64 y38.Shape, .int .i64 y38.Flags, .int .i64 y38.Age, .slice A41 n41 c41, .slice A42 n42 c42], slC rDCell (.slice A25 n25 c25) p25, slC rDCell (.slice A26 n26 c26) p26, slC (rInt .i64) (.slice A27 n27 c27) p27, boxC B13 93 [.slice A25 n25 c25, .slice A26 n26 c26, .slice A27 n27 c27], slC rDCell (.slice A28 n28 c28) p28, slC rDCell (.slice A29 n29 c29) p29, slC (rInt .i64) (.slice A30 n30 c30) p30, boxC B18 93 [.slice A28 n28 c28, .slice A29 n29 c29, .slice A30 n30 c30]]) rfl ?_
          refine N_done (by kernel_rfl) ?_
          refine nx_n ?_
          refine G_seq ?_
          obtain ⟨x45, hx45, h⟩ := bind_elim h
          obtain ⟨lx45, ux45, hx45⟩ := getE_elim hx45
          obtain ⟨y46, hy46, h⟩ := bind_elim h
          obtain ⟨y51, hy51, h⟩ := bind_elim h
          refine G_sub (t := [(8, .bool false), (9, .pointer (some ⟨B13, 0, none⟩)), (10, .pointer (some ⟨B18, 0, none⟩)), (11, .int .i64 p24), (12, .pointer (some ⟨B44, 0, none⟩))]) ?_ subT (cv_refl _)
          refine G_monoX (by kernel_rfl) 12 [] [10, 11] [53, 54, 55, 56, 57, 58, 59, 60, 61, 62, 63, 13] [[], [0], [], [2], [], [3, 4], [5], [1, 6], [], [8], [7, 9], []] [aV (.pointer (some ⟨B18, 0, none⟩)),
 aV (.agg #[.slice A28 n28 c28, .slice A29 n29 c29]),
 aV (.pointer (some ⟨B18, 2, none⟩)),
 aV (.slice A30 n30 c30),
 aV (.int .i64 p24),
 aV (elemQ (.slice A30 n30 c30) p24.toNat 1 0),
 aV (.int .i64 x45),
 aX6 (fun (A49 : Option Addr) (n49 c49 : Nat) (A50 : Option Addr) (n50 c50 : Nat) => .agg #[.int .i64 y46.Kind, .int .i64 y46.Shape, .int .i64 y46.Flags, .int .i64 y46.Age, .slice A49 n49 c49, .slice A50 n50 c50]) (fun A49 n49 c49 A50 n50 c50 => [slC rDValue (.slice A49 n49 c49) y46.Slots, slC rDValue (.slice A50 n50 c50) y46.More]),
 aV (.pointer (some ⟨B18, 2, none⟩)),
 aV (.slice A30 n30 c30),
 aX6 (fun (A54 : Option Addr) (n54 c54 : Nat) (A55 : Option Addr) (n55 c55 : Nat) => .agg #[.int .i64 y51.Kind, .int .i64 y51.Shape, .int .i64 y51.Flags, .int .i64 y51.Age, .slice A54 n54 c54, .slice A55 n55 c55]) (fun A54 n54 c54 A55 n55 c55 => [slC rDValue (.slice A54 n54 c54) y51.Slots, slC rDValue (.slice A55 n55 c55) y51.More]),
 aX1 (fun (B57 : Nat) => .pointer (some ⟨B57, 0, none⟩)) (fun B57 => [boxC B57 32 [.int .i64 0, .int .i64 0, .int .i64 0, .int .i64 0, .slice none 0 0, .slice none 0 0]])] [] (cv_refl _) (qB_nil) (by kernel_rfl) rfl rfl ?_ ?_ ?_
          · exact qs_nil
          · refine steps_cons rfl ?_ ?_
            · refine X_op (op_alloc zero32 rfl) rfl ?_
              rintro _ _ ⟨B56, rfl, rfl⟩
              exact cvp1 B56 (cv_refl _)
            refine steps_cons rfl ?_ ?_
            · intro A49 n49 c49 A50 n50 c50
              refine X_op (op_call (pantomimeref19_cleaned_ok hy51) call75 rfl (cv_take [0, 1, 11] [] [0, 1, 2, 3, 4, 5, 6, 7, 8, 9, 10, 11, 12] 13 rfl)) rfl ?_
              rintro _ _ ⟨_, ⟨A52, n52, c52, A53, n53, c53, rfl, rfl⟩, rfl⟩
              exact cvp6 A52 n52 c52 A53 n53 c53 (cv_refl _)
            refine steps_cons rfl ?_ ?_
            · exact X_rd (rd_box1 10 rfl rfl one35 rfl) rfl (cvpV rfl (cv_refl _))
            refine steps_cons rfl ?_ ?_
            · exact X_ev (ev_fa rfl fa_93_1) rfl (cvpV rfl (cv_refl _))
            refine steps_cons rfl ?_ ?_
            · refine X_op (op_call (pantomimeref19_At_ok hy46) call17 rfl (cv_take [7, 8] [] [0, 1, 2, 3, 4, 5, 6, 7, 8, 9, 10] 11 rfl)) rfl ?_
              rintro _ _ ⟨_, ⟨A47, n47, c47, A48, n48, c48, rfl, rfl⟩, rfl⟩
              exact cvp6 A47 n47 c47 A48 n48 c48 (cv_refl _)
            refine steps_cons rfl ?_ ?_
            · exact X_rd (rd_elem1 (u := .int .i64 x45) 9 rfl els_sl rfl hx45 one3 (fun _ _ _ h => by rw [show _ = _ from h]; rfl)) rfl (cvpV rfl (cv_refl _))
            refine steps_cons rfl ?_ ?_
            · exact X_rd (rd_idx 9 rfl els_sl rfl rfl Tryz.underlying35 size3 lx45 ux45) rfl (cvpV rfl (cv_refl _))
            refine steps_cons rfl ?_ ?_
            · exact X_ev (ev_move rfl) rfl (cvpV rfl (cv_refl _))
            refine steps_cons rfl ?_ ?_
            · exact X_rd (rd_box1 10 rfl rfl one35 rfl) rfl (cvpV rfl (cv_refl _))
            refine steps_cons rfl ?_ ?_
            · exact X_ev (ev_fa rfl fa_93_1) rfl (cvpV rfl (cv_refl _))
            refine steps_cons rfl ?_ ?_
            · exact X_rd (rd_boxS (us := [.slice A28 n28 c28, .slice A29 n29 c29]) 10 rfl rfl agg24 rfl) rfl (cvpV rfl (cv_refl _))
            refine steps_cons rfl ?_ ?_
            · exact X_ev (ev_fa0 rfl fa_93_0) rfl (cvpV rfl (cv_refl _))
            exact steps_nil
          · intro A54 n54 c54 A55 n55 c55 B57
            refine N_sub (t := [(63, .agg #[.int .i64 y51.Kind, .int .i64 y51.Shape, .int .i64 y51.Flags, .int .i64 y51.Age, .slice A54 n54 c54, .slice A55 n55 c55]), (13, .pointer (some ⟨B57, 0, none⟩)), (8, .bool false), (9, .pointer (some ⟨B13, 0, none⟩)), (10, .pointer (some ⟨B18, 0, none⟩)), (11, .int .i64 p24), (12, .pointer (some ⟨B44, 0, none⟩))]) (L' := [slC rDValue (.slice A54 n54 c54) y51.Slots, slC rDValue (.slice A55 n55 c55) y51.More, boxC B57 32 [.int .i64 0, .int .i64 0, .int .i64 0, .int .i64 0, .slice none 0 0, .slice none 0 0], slC rDValue (.slice A41 n41 c41) y38.Slots, slC rDValue (.slice A42 n42 c42) y38.More, boxC B44 32 [.int .i64 y38.Kind, .int .i64 y38.Shape, .int .i64 y38.Flags, .int .i64 y38.Age, .slice A41 n41 c41, .slice A42 n42 c42], slC rDCell (.slice A25 n25 c25) p25, slC rDCell (.slice A26 n26 c26) p26, slC (rInt .i64) (.slice A27 n27 c27) p27, boxC B13 93 [.slice A25 n25 c25, .slice A26 n26 c26, .slice A27 n27 c27], slC rDCell (.slice A28 n28 c28) p28, slC rDCell (.slice A29 n29 c29) p29, slC (rInt .i64) (.slice A30 n30 c30) p30, boxC B18 93 [.slice A28 n28 c28, .slice A29 n29 c29, .slice A30 n30 c30]]) ?_ subT (cv_refl _)
            refine N_opn 12 rfl (by kernel_rfl) (op_store (us := [.int .i64 y51.Kind, .int .i64 y51.Shape, .int .i64 y51.Flags, .int .i64 y51.Age, .slice A54 n54 c54, .slice A55 n55 c55]) (cs' := [.int .i64 y51.Kind, .int .i64 y51.Shape, .int .i64 y51.Flags, .int .i64 y51.Age, .slice A54 n54 c54, .slice A55 n55 c55]) 2 rfl rfl rfl rfl size32 rfl rfl rfl) rfl rfl ?_
            rintro _ _ rfl
            refine N_norm ([slC rDValue (.slice A54 n54 c54) y51.Slots, slC rDValue (.slice A55 n55 c55) y51.More, boxC B57 32 [.int .i64 y51.Kind, .int .i64 y51.Shape, .int .i64 y51.Flags, .int .i64 y51.Age, .slice A54 n54 c54, .slice A55 n55 c55], slC rDValue (.slice A41 n41 c41) y38.Slots, slC rDValue (.slice A42 n42 c42) y38.More, boxC B44 32 [.int .i64 y38.Kind, .int .i64 y38.Shape, .int .i64 y38.Flags, .int .i64 y38.Age, .slice A41 n41 c41, .slice A42 n42 c42], slC rDCell (.slice A25 n25 c25) p25, slC rDCell (.slice A26 n26 c26) p26, slC (rInt .i64) (.slice A27 n27 c27) p27, boxC B13 93 [.slice A25 n25 c25, .slice A26 n26 c26, .slice A27 n27 c27], slC rDCell (.slice A28 n28 c28) p28, slC rDCell (.slice A29 n29 c29) p29, slC (rInt .i64) (.slice A30 n30 c30) p30, boxC B18 93 [.slice A28 n28 c28, .slice A29 n29 c29, .slice A30 n30 c30]]) rfl ?_
            refine N_done (by kernel_rfl) ?_
            refine run ?_
            obtain ⟨b58, hb58, h⟩ := bind_elim h
            refine G_segb 6 75 b58 ?_ ?_
            · clear h
              refine G_case 69 rfl (fun g58 => ?_) (fun g58 => ?_)
              · have h := cond_t g58 hb58
                refine run ?_
                obtain rfl := Option.some.inj h
                exact G_joined (sub_cons rfl (sub_skip (sub_skip (sub_skip (sub_skip (sub_skip (sub_skip sub_refl rfl) rfl) rfl) rfl) rfl) rfl)) (cv_sel [0, 1, 2, 3, 4, 5, 6, 7, 8, 9, 10, 11, 12, 13] 14 rfl rfl)
              · have h := cond_f g58 hb58
                refine run ?_
                obtain rfl := Option.some.inj h
                exact G_joined (sub_cons rfl (sub_skip (sub_skip (sub_skip (sub_skip (sub_skip (sub_skip sub_refl rfl) rfl) rfl) rfl) rfl) rfl)) (cv_sel [0, 1, 2, 3, 4, 5, 6, 7, 8, 9, 10, 11, 12, 13] 14 rfl rfl)
            refine run ?_
            obtain ⟨b59, hb59, h⟩ := bind_elim h
            refine G_segb 6 82 b59 ?_ ?_
            · clear h
              refine G_case 76 rfl (fun g59 => ?_) (fun g59 => ?_)
              · have h := cond_t g59 hb59
                refine run ?_
                obtain rfl := Option.some.inj h
                exact G_joined (sub_cons rfl (sub_skip (sub_skip (sub_skip (sub_skip (sub_skip (sub_skip sub_refl rfl) rfl) rfl) rfl) rfl) rfl)) (cv_sel [0, 1, 2, 3, 4, 5, 6, 7, 8, 9, 10, 11, 12, 13] 14 rfl rfl)
              · have h := cond_f g59 hb59
                refine run ?_
                obtain rfl := Option.some.inj h
                exact G_joined (sub_cons rfl (sub_skip (sub_skip (sub_skip (sub_skip (sub_skip (sub_skip sub_refl rfl) rfl) rfl) rfl) rfl) rfl)) (cv_sel [0, 1, 2, 3, 4, 5, 6, 7, 8, 9, 10, 11, 12, 13] 14 rfl rfl)
            refine run ?_
            obtain ⟨b60, hb60, h⟩ := bind_elim h
            refine G_segb 9 92 b60 ?_ ?_
            · clear h
              refine G_case 83 rfl (fun g60 => ?_) (fun g60 => ?_)
              · have h := cond_t g60 hb60
                refine run ?_
                obtain rfl := Option.some.inj h
                exact G_joined (sub_cons rfl (sub_skip (sub_skip (sub_skip (sub_skip (sub_skip (sub_skip (sub_skip (sub_skip (sub_skip sub_refl rfl) rfl) rfl) rfl) rfl) rfl) rfl) rfl) rfl)) (cv_sel [0, 1, 2, 3, 4, 5, 6, 7, 8, 9, 10, 11, 12, 13] 14 rfl rfl)
              · have h := cond_f g60 hb60
                refine G_rd (rd_boxS (us := [.slice A25 n25 c25, .slice A26 n26 c26, .slice A27 n27 c27]) 9 rfl rfl agg93 rfl) rfl (g_ff g60 rfl) rfl ?_
                refine run ?_
                refine G_rd (rd_boxS (us := [.slice A28 n28 c28, .slice A29 n29 c29, .slice A30 n30 c30]) 13 rfl rfl agg93 rfl) rfl (g_ff g60 rfl) rfl ?_
                refine run ?_
                obtain ⟨y61, hy61, h⟩ := bind_elim h
                refine G_opd (op_callR (pantomimeref19_values_ok hy61) call74 rfl (mem_cons (lent_ro (i := 6) rfl rfl) (mem_cons (lent_ro (i := 7) rfl rfl) (mem_cons (lent_ro (i := 8) rfl rfl) (mem_cons (lent_ro (i := 3) rfl rfl) (mem_cons (lent_ro (i := 10) rfl rfl) (mem_cons (lent_ro (i := 11) rfl rfl) (mem_cons (lent_ro (i := 12) rfl rfl) (mem_cons (lent_ro (i := 0) rfl rfl) mem_nil)))))))) pantomimeref19_values_free) rfl (g_ff g60 rfl) rfl ?_
                rintro _ _ ⟨_, ⟨rfl, rfl⟩, rfl⟩
                refine run ?_
                obtain rfl := Option.some.inj h
                exact G_joined (sub_cons rfl (sub_skip (sub_skip (sub_skip (sub_skip (sub_skip (sub_skip (sub_skip (sub_skip (sub_skip sub_refl rfl) rfl) rfl) rfl) rfl) rfl) rfl) rfl) rfl)) (cv_sel [0, 1, 2, 3, 4, 5, 6, 7, 8, 9, 10, 11, 12, 13] 14 rfl rfl)
            refine run ?_
            obtain ⟨b62, hb62, h⟩ := bind_elim h
            refine G_segb 9 102 b62 ?_ ?_
            · clear h
              refine G_case 93 rfl (fun g62 => ?_) (fun g62 => ?_)
              · have h := cond_t g62 hb62
                refine run ?_
                obtain rfl := Option.some.inj h
                exact G_joined (sub_cons rfl (sub_skip (sub_skip (sub_skip (sub_skip (sub_skip (sub_skip (sub_skip (sub_skip (sub_skip sub_refl rfl) rfl) rfl) rfl) rfl) rfl) rfl) rfl) rfl)) (cv_sel [0, 1, 2, 3, 4, 5, 6, 7, 8, 9, 10, 11, 12, 13] 14 rfl rfl)
              · have h := cond_f g62 hb62
                refine G_rd (rd_boxS (us := [.slice A25 n25 c25, .slice A26 n26 c26, .slice A27 n27 c27]) 9 rfl rfl agg93 rfl) rfl (g_ff g62 rfl) rfl ?_
                refine run ?_
                refine G_rd (rd_boxS (us := [.slice A28 n28 c28, .slice A29 n29 c29, .slice A30 n30 c30]) 13 rfl rfl agg93 rfl) rfl (g_ff g62 rfl) rfl ?_
                refine run ?_
                obtain ⟨y63, hy63, h⟩ := bind_elim h
                refine G_opd (op_callR (pantomimeref19_values_ok hy63) call74 rfl (mem_cons (lent_ro (i := 6) rfl rfl) (mem_cons (lent_ro (i := 7) rfl rfl) (mem_cons (lent_ro (i := 8) rfl rfl) (mem_cons (lent_ro (i := 4) rfl rfl) (mem_cons (lent_ro (i := 10) rfl rfl) (mem_cons (lent_ro (i := 11) rfl rfl) (mem_cons (lent_ro (i := 12) rfl rfl) (mem_cons (lent_ro (i := 1) rfl rfl) mem_nil)))))))) pantomimeref19_values_free) rfl (g_ff g62 rfl) rfl ?_
                rintro _ _ ⟨_, ⟨rfl, rfl⟩, rfl⟩
                refine run ?_
                obtain rfl := Option.some.inj h
                exact G_joined (sub_cons rfl (sub_skip (sub_skip (sub_skip (sub_skip (sub_skip (sub_skip (sub_skip (sub_skip (sub_skip sub_refl rfl) rfl) rfl) rfl) rfl) rfl) rfl) rfl) rfl)) (cv_sel [0, 1, 2, 3, 4, 5, 6, 7, 8, 9, 10, 11, 12, 13] 14 rfl rfl)
            refine run ?_
            refine G_cond rfl (fun g64 => ?_) (fun g64 => ?_)
            · replace h := cond_t g64 h
              refine run ?_
              obtain rfl := Option.some.inj h
              exact endG1 rfl rfl (cv_sel [] 14 rfl rfl) ⟨rfl, rfl⟩
            · replace h := cond_f g64 h
              refine run ?_
              obtain ⟨q65, h⟩ := req_elim h
              refine G_ev (ev_add rfl rfl q65.1 q65.2) rfl rfl rfl ?_
              refine run ?_
              exact ⟨m23, _, _, Nat.lt_succ_self _, ⟨p24 + 1, p25, p26, p27, p28, p29, p30, A25, n25, c25, A26, n26, c26, A27, n27, c27, A28, n28, c28, A29, n29, c29, A30, n30, c30, h, rfl, rfl⟩, sub_cons rfl (sub_cons rfl (sub_cons rfl (sub_cons rfl sub_nil))), cv_sel [6, 7, 8, 9, 10, 11, 12, 13] 14 rfl rfl⟩
      · replace h := cond_f g31 h
        refine run ?_
        exact ⟨_, _, ⟨h, rfl, rfl⟩, sub_cons rfl sub_nil, cv_sel [] 8 rfl rfl⟩
    · rintro _ _ ⟨h, rfl, rfl⟩
      refine run ?_
      obtain rfl := Option.some.inj h
      exact endG1 rfl rfl (cv_sel [] 0 rfl rfl) ⟨rfl, rfl⟩
theorem pantomimeref19_Alike_free {r : Bool} : ∀ v post, ((fun (u : Value) (post : List Chunk) => u = .bool r ∧ post = [])) v post → ∀ c ∈ post, Free c := by
  rintro _ _ ⟨rfl, rfl⟩; exact mem_nil
def pantomimelaw19_ReachAlike_O (N : Nat) (a0 : DMemory) (a1 : DMemory) (a2 : DS41) : Option Bool :=
  (pantomimeref19_Few_O N a0 a2.e0).bind fun y10 => (bif !y10 then (some true) else ((pantomimeref19_Few_O N a1 a2.e1).bind fun y12 => some (!y12))).bind fun b11 => bif b11 then ((pantomimelaw19_goes_O N).bind fun y14 => some y14) else ((reach_Alike_O N a0 a2.e0 a1 a2.e1).bind fun y15 => (pantomimeref19_Alike_O N a0 a2.e0 a1 a2.e1).bind fun y16 => (bif y15 == y16 then ((reach_Alike_O N a1 a2.e1 a0 a2.e0).bind fun y18 => some (y15 == y18)) else (some false)).bind fun b17 => (bif b17 then ((reach_Alike_O N a0 a2.e0 a0 a2.e0).bind fun y20 => some y20) else (some false)).bind fun b19 => (bif b19 then ((pantomimelaw19_goes_O N).bind fun y22 => some y22) else (some false)).bind fun b21 => some b21)
theorem pantomimelaw19_ReachAlike_ok {N : Nat} {a0 : DMemory} {a1 : DMemory} {a2 : DS41} {r : Bool} (h : pantomimelaw19_ReachAlike_O N a0 a1 a2 = some r) {A1 : Option Addr} {n1 c1 : Nat} {A2 : Option Addr} {n2 c2 : Nat} {A3 : Option Addr} {n3 c3 : Nat} {A4 : Option Addr} {n4 c4 : Nat} {A5 : Option Addr} {n5 c5 : Nat} {A6 : Option Addr} {n6 c6 : Nat} : Okc Tryz.prog 4 [.agg #[.slice A1 n1 c1, .slice A2 n2 c2], .agg #[.slice A3 n3 c3, .slice A4 n4 c4], .agg #[.slice A5 n5 c5, .slice A6 n6 c6]] ([slC rDCell (.slice A1 n1 c1) a0.Young, slC rDCell (.slice A2 n2 c2) a0.Old, slC rDCell (.slice A3 n3 c3) a1.Young, slC rDCell (.slice A4 n4 c4) a1.Old, slC rDValue (.slice A5 n5 c5) a2.e0, slC rDValue (.slice A6 n6 c6) a2.e1]) (fun (u : Value) (post : List Chunk) => u = .bool r ∧ post = []) := by
  refine ok_E Tryz.func4 rfl rfl ?_
  simp only [envOf]
  refine run ?_
  refine G_opd (op_box rfl rfl) rfl rfl rfl ?_
  rintro _ _ ⟨B7, rfl, rfl⟩
  refine G_opd (op_box rfl rfl) rfl rfl rfl ?_
  rintro _ _ ⟨B8, rfl, rfl⟩
  refine G_opd (op_box rfl rfl) rfl rfl rfl ?_
  rintro _ _ ⟨B9, rfl, rfl⟩
  refine run ?_
  refine G_seq ?_
  refine run ?_
  refine G_rd (rd_boxS (us := [.slice A1 n1 c1, .slice A2 n2 c2]) 2 rfl rfl agg24 rfl) rfl rfl rfl ?_
  refine G_ev (ev_ia0 rfl rfl ia_41_0) rfl rfl rfl ?_
  refine run ?_
  obtain ⟨y10, hy10, h⟩ := bind_elim h
  refine G_opd (op_callR (pantomimeref19_Few_ok hy10) call10 rfl (mem_cons (lent_ro (i := 3) rfl rfl) (mem_cons (lent_ro (i := 4) rfl rfl) (mem_cons (lent_ro (i := 7) rfl rfl) mem_nil))) pantomimeref19_Few_free) rfl rfl rfl ?_
  rintro _ _ ⟨_, ⟨rfl, rfl⟩, rfl⟩
  refine run ?_
  obtain ⟨b11, hb11, h⟩ := bind_elim h
  refine G_segb 6 19 b11 ?_ ?_
  · clear h
    refine G_case 13 rfl (fun g11 => ?_) (fun g11 => ?_)
    · have h := cond_t g11 hb11
      refine run ?_
      obtain rfl := Option.some.inj h
      exact G_joined (sub_cons rfl (sub_skip (sub_skip (sub_skip (sub_skip (sub_skip (sub_skip sub_refl rfl) rfl) rfl) rfl) rfl) rfl)) (cv_sel [0, 1, 2, 3, 4, 5, 6, 7, 8] 9 rfl rfl)
    · have h := cond_f g11 hb11
      refine G_rd (rd_boxS (us := [.slice A3 n3 c3, .slice A4 n4 c4]) 1 rfl rfl agg24 rfl) rfl (g_ff g11 rfl) rfl ?_
      refine G_ev (ev_ia rfl rfl ia_41_1) rfl (g_ff g11 rfl) rfl ?_
      refine run ?_
      obtain ⟨y12, hy12, h⟩ := bind_elim h
      refine G_opd (op_callR (pantomimeref19_Few_ok hy12) call10 rfl (mem_cons (lent_ro (i := 5) rfl rfl) (mem_cons (lent_ro (i := 6) rfl rfl) (mem_cons (lent_ro (i := 8) rfl rfl) mem_nil))) pantomimeref19_Few_free) rfl (g_ff g11 rfl) rfl ?_
      rintro _ _ ⟨_, ⟨rfl, rfl⟩, rfl⟩
      refine run ?_
      obtain rfl := Option.some.inj h
      exact G_joined (sub_cons rfl (sub_skip (sub_skip (sub_skip (sub_skip (sub_skip (sub_skip sub_refl rfl) rfl) rfl) rfl) rfl) rfl)) (cv_sel [0, 1, 2, 3, 4, 5, 6, 7, 8] 9 rfl rfl)
  refine run ?_
  refine G_cond rfl (fun g13 => ?_) (fun g13 => ?_)
  · replace h := cond_t g13 h
    refine run ?_
    obtain ⟨y14, hy14, h⟩ := bind_elim h
    refine G_opd (op_callR (pantomimelaw19_goes_ok hy14) call11 rfl (mem_nil) pantomimelaw19_goes_free) rfl rfl rfl ?_
    rintro _ _ ⟨_, ⟨rfl, rfl⟩, rfl⟩
    refine run ?_
    obtain rfl := Option.some.inj h
    exact endG1 rfl rfl (cv_sel [] 9 rfl rfl) ⟨rfl, rfl⟩
  · replace h := cond_f g13 h
    refine run ?_
    refine G_rd (rd_boxS (us := [.slice A1 n1 c1, .slice A2 n2 c2]) 2 rfl rfl agg24 rfl) rfl rfl rfl ?_
    refine G_ev (ev_ia0 rfl rfl ia_41_0) rfl rfl rfl ?_
    refine run ?_
    refine G_rd (rd_boxS (us := [.slice A3 n3 c3, .slice A4 n4 c4]) 1 rfl rfl agg24 rfl) rfl rfl rfl ?_
    refine G_ev (ev_ia rfl rfl ia_41_1) rfl rfl rfl ?_
    refine run ?_
    obtain ⟨y15, hy15, h⟩ := bind_elim h
    refine G_opd (op_callR (reach_Alike_ok hy15) call28 rfl (mem_cons (lent_ro (i := 3) rfl rfl) (mem_cons (lent_ro (i := 4) rfl rfl) (mem_cons (lent_ro (i := 7) rfl rfl) (mem_cons (lent_ro (i := 5) rfl rfl) (mem_cons (lent_ro (i := 6) rfl rfl) (mem_cons (lent_ro (i := 8) rfl rfl) mem_nil)))))) reach_Alike_free) rfl rfl rfl ?_
    rintro _ _ ⟨_, ⟨rfl, rfl⟩, rfl⟩
    refine run ?_
    refine G_rd (rd_boxS (us := [.slice A1 n1 c1, .slice A2 n2 c2]) 2 rfl rfl agg24 rfl) rfl rfl rfl ?_
    refine G_ev (ev_ia0 rfl rfl ia_41_0) rfl rfl rfl ?_
    refine run ?_
    refine G_rd (rd_boxS (us := [.slice A3 n3 c3, .slice A4 n4 c4]) 1 rfl rfl agg24 rfl) rfl rfl rfl ?_
    refine G_ev (ev_ia rfl rfl ia_41_1) rfl rfl rfl ?_
    refine run ?_
    obtain ⟨y16, hy16, h⟩ := bind_elim h
    refine G_opd (op_callR (pantomimeref19_Alike_ok hy16) call29 rfl (mem_cons (lent_ro (i := 3) rfl rfl) (mem_cons (lent_ro (i := 4) rfl rfl) (mem_cons (lent_ro (i := 7) rfl rfl) (mem_cons (lent_ro (i := 5) rfl rfl) (mem_cons (lent_ro (i := 6) rfl rfl) (mem_cons (lent_ro (i := 8) rfl rfl) mem_nil)))))) pantomimeref19_Alike_free) rfl rfl rfl ?_
    rintro _ _ ⟨_, ⟨rfl, rfl⟩, rfl⟩
    refine G_ev (ev_beq rfl rfl Tryz.underlying4) rfl rfl rfl ?_
    refine run ?_
    obtain ⟨b17, hb17, h⟩ := bind_elim h
    refine G_segb 10 47 b17 ?_ ?_
    · clear h
      refine G_case 37 rfl (fun g17 => ?_) (fun g17 => ?_)
      · have h := cond_t g17 hb17
        refine run ?_
        refine G_rd (rd_boxS (us := [.slice A3 n3 c3, .slice A4 n4 c4]) 1 rfl rfl agg24 rfl) rfl (g_tt g17 rfl) rfl ?_
        refine G_ev (ev_ia rfl rfl ia_41_1) rfl (g_tt g17 rfl) rfl ?_
        refine run ?_
        refine G_rd (rd_boxS (us := [.slice A1 n1 c1, .slice A2 n2 c2]) 2 rfl rfl agg24 rfl) rfl (g_tt g17 rfl) rfl ?_
        refine G_ev (ev_ia0 rfl rfl ia_41_0) rfl (g_tt g17 rfl) rfl ?_
        refine run ?_
        obtain ⟨y18, hy18, h⟩ := bind_elim h
        refine G_opd (op_callR (reach_Alike_ok hy18) call28 rfl (mem_cons (lent_ro (i := 5) rfl rfl) (mem_cons (lent_ro (i := 6) rfl rfl) (mem_cons (lent_ro (i := 8) rfl rfl) (mem_cons (lent_ro (i := 3) rfl rfl) (mem_cons (lent_ro (i := 4) rfl rfl) (mem_cons (lent_ro (i := 7) rfl rfl) mem_nil)))))) reach_Alike_free) rfl (g_tt g17 rfl) rfl ?_
        rintro _ _ ⟨_, ⟨rfl, rfl⟩, rfl⟩
        refine G_ev (ev_beq rfl rfl Tryz.underlying4) rfl (g_tt g17 rfl) rfl ?_
        refine run ?_
        obtain rfl := Option.some.inj h
        exact G_joined (sub_cons rfl (sub_skip (sub_skip (sub_skip (sub_skip (sub_skip (sub_skip (sub_skip (sub_skip (sub_skip (sub_skip sub_refl rfl) rfl) rfl) rfl) rfl) rfl) rfl) rfl) rfl) rfl)) (cv_sel [0, 1, 2, 3, 4, 5, 6, 7, 8] 9 rfl rfl)
      · have h := cond_f g17 hb17
        refine run ?_
        obtain rfl := Option.some.inj h
        exact G_joined (sub_cons rfl (sub_skip (sub_skip (sub_skip (sub_skip (sub_skip (sub_skip (sub_skip (sub_skip (sub_skip (sub_skip sub_refl rfl) rfl) rfl) rfl) rfl) rfl) rfl) rfl) rfl) rfl)) (cv_sel [0, 1, 2, 3, 4, 5, 6, 7, 8] 9 rfl rfl)
    refine run ?_
    obtain ⟨b19, hb19, h⟩ := bind_elim h
    refine G_segb 8 56 b19 ?_ ?_
    · clear h
      refine G_case 48 rfl (fun g19 => ?_) (fun g19 => ?_)
      · have h := cond_t g19 hb19
        refine G_rd (rd_boxS (us := [.slice A1 n1 c1, .slice A2 n2 c2]) 2 rfl rfl agg24 rfl) rfl (g_tt g19 rfl) rfl ?_
        refine G_ev (ev_ia0 rfl rfl ia_41_0) rfl (g_tt g19 rfl) rfl ?_
        refine run ?_
        refine G_rd (rd_boxS (us := [.slice A1 n1 c1, .slice A2 n2 c2]) 2 rfl rfl agg24 rfl) rfl (g_tt g19 rfl) rfl ?_
        refine G_ev (ev_ia0 rfl rfl ia_41_0) rfl (g_tt g19 rfl) rfl ?_
        refine run ?_
        obtain ⟨y20, hy20, h⟩ := bind_elim h
        refine G_opd (op_callR (reach_Alike_ok hy20) call28 rfl (mem_cons (lent_ro (i := 3) rfl rfl) (mem_cons (lent_ro (i := 4) rfl rfl) (mem_cons (lent_ro (i := 7) rfl rfl) (mem_cons (lent_ro (i := 3) rfl rfl) (mem_cons (lent_ro (i := 4) rfl rfl) (mem_cons (lent_ro (i := 7) rfl rfl) mem_nil)))))) reach_Alike_free) rfl (g_tt g19 rfl) rfl ?_
        rintro _ _ ⟨_, ⟨rfl, rfl⟩, rfl⟩
        refine run ?_
        obtain rfl := Option.some.inj h
        exact G_joined (sub_cons rfl (sub_skip (sub_skip (sub_skip (sub_skip (sub_skip (sub_skip (sub_skip (sub_skip sub_refl rfl) rfl) rfl) rfl) rfl) rfl) rfl) rfl)) (cv_sel [0, 1, 2, 3, 4, 5, 6, 7, 8] 9 rfl rfl)
      · have h := cond_f g19 hb19
        refine run ?_
        obtain rfl := Option.some.inj h
        exact G_joined (sub_cons rfl (sub_skip (sub_skip (sub_skip (sub_skip (sub_skip (sub_skip (sub_skip (sub_skip sub_refl rfl) rfl) rfl) rfl) rfl) rfl) rfl) rfl)) (cv_sel [0, 1, 2, 3, 4, 5, 6, 7, 8] 9 rfl rfl)
    refine run ?_
    obtain ⟨b21, hb21, h⟩ := bind_elim h
    refine G_segb 2 59 b21 ?_ ?_
    · clear h
      refine G_case 57 rfl (fun g21 => ?_) (fun g21 => ?_)
      · have h := cond_t g21 hb21
        obtain ⟨y22, hy22, h⟩ := bind_elim h
        refine G_opd (op_callR (pantomimelaw19_goes_ok hy22) call11 rfl (mem_nil) pantomimelaw19_goes_free) rfl (g_tt g21 rfl) rfl ?_
        rintro _ _ ⟨_, ⟨rfl, rfl⟩, rfl⟩
        refine run ?_
        obtain rfl := Option.some.inj h
        exact G_joined (sub_cons rfl (sub_skip (sub_skip sub_refl rfl) rfl)) (cv_sel [0, 1, 2, 3, 4, 5, 6, 7, 8] 9 rfl rfl)
      · have h := cond_f g21 hb21
        refine run ?_
        obtain rfl := Option.some.inj h
        exact G_joined (sub_cons rfl (sub_skip (sub_skip sub_refl rfl) rfl)) (cv_sel [0, 1, 2, 3, 4, 5, 6, 7, 8] 9 rfl rfl)
    refine run ?_
    obtain rfl := Option.some.inj h
    exact endG1 rfl rfl (cv_sel [] 9 rfl rfl) ⟨rfl, rfl⟩
end Go.Proofs.YtmbaennilhdieaaGreat

/- Pure functions and contracts of Go functions (printed by all3.py). -/
namespace Go.Proofs.YtmbaennilhdieaaGreat
open Go.RowKit Asn
set_option maxRecDepth 20000

end Go.Proofs.YtmbaennilhdieaaGreat

/- All printed functions. -/

/- Plain tools for translated functions: results in Option, loops with fuel. Over any program. -/
namespace Go.Proofs.YtmbaennilhdieaaGreat
open Go.RowKit

/-- m ends, and its value satisfies R -/
def Sat {ρ : Type} (m : Option ρ) (R : ρ → Prop) : Prop := ∃ r, m = some r ∧ R r
theorem sat_some {ρ : Type} {x : ρ} {R : ρ → Prop} (h : R x) : Sat (some x) R := ⟨x, rfl, h⟩
theorem Sat.eq {ρ : Type} {m : Option ρ} {x : ρ} (h : Sat m (· = x)) : m = some x := by obtain ⟨r, h1, rfl⟩ := h; exact h1
theorem Sat.mono {ρ : Type} {m : Option ρ} {R Q : ρ → Prop} (h : Sat m R) (k : ∀ x, R x → Q x) : Sat m Q := by obtain ⟨r, h1, h2⟩ := h; exact ⟨r, h1, k _ h2⟩
theorem Sat.bind {ρ σ : Type} {m : Option σ} {f : σ → Option ρ} {P : σ → Prop} {R : ρ → Prop} (h : Sat m P) (k : ∀ x, P x → Sat (f x) R) : Sat (m.bind f) R := by obtain ⟨x, rfl, h2⟩ := h; exact k x h2
theorem sat_cond {ρ : Type} {b : Bool} {x y : Option ρ} {R : ρ → Prop} (h1 : b = true → Sat x R) (h2 : b = false → Sat y R) : Sat (bif b then x else y) R := by cases b with | true => exact h1 rfl | false => exact h2 rfl
theorem sat_dec {ρ : Type} {p : Prop} [Decidable p] {x y : Option ρ} {R : ρ → Prop} (h1 : p → Sat x R) (h2 : ¬ p → Sat y R) : Sat (bif decide p then x else y) R := by
  by_cases h : p
  · rw [decide_eq_true h]; exact h1 h
  · rw [decide_eq_false h]; exact h2 h
theorem sat_not {ρ : Type} {b : Bool} {x y : Option ρ} {R : ρ → Prop} (h1 : b = false → Sat x R) (h2 : b = true → Sat y R) : Sat (bif !b then x else y) R := by cases b with | true => exact h2 rfl | false => exact h1 rfl
/-! (no rfl-lemmas: simp's implicit proofs by unfolding are too deep for the kernel) -/
theorem bs {ρ σ : Type} {x : σ} {f : σ → Option ρ} : (some x).bind f = f x := Eq.trans rfl rfl
theorem ct {ρ : Type} {x y : ρ} : (bif true then x else y) = x := Eq.trans rfl rfl
theorem cf {ρ : Type} {x y : ρ} : (bif false then x else y) = y := Eq.trans rfl rfl
theorem nt : (!true) = false := Eq.trans rfl rfl
theorem nf : (!false) = true := Eq.trans rfl rfl
theorem lt_t {a b : Int} (h : a < b) : decide (a < b) = true := decide_eq_true h
theorem lt_f {a b : Int} (h : b ≤ a) : decide (a < b) = false := decide_eq_false (by omega)
theorem le_t {a b : Int} (h : a ≤ b) : decide (a ≤ b) = true := decide_eq_true h
theorem le_f {a b : Int} (h : b < a) : decide (a ≤ b) = false := decide_eq_false (by omega)
theorem eq_t {a b : Int} (h : a = b) : decide (a = b) = true := decide_eq_true h
theorem eq_f {a b : Int} (h : a ≠ b) : decide (a = b) = false := decide_eq_false h
theorem req_t {ρ : Type} {b : Prop} [Decidable b] {m : Option ρ} (h : b) : req b m = m := if_pos h
theorem r64 {ρ : Type} {a : Int} {m : Option ρ} (h1 : -9000000000000000000 ≤ a) (h2 : a ≤ 9000000000000000000) : req (in64 a) m = m := if_pos ⟨by omega, by omega⟩
theorem rF {ρ : Type} {n : Nat} {m : Option ρ} (h : n ≤ 1000000) : req (fitsL n) m = m := if_pos (by unfold fitsL; omega)
theorem getE_at {α : Type} {xs : List α} {i : Int} (h0 : 0 ≤ i) (h1 : i.toNat < xs.length) : getE xs i = some xs[i.toNat] := by
  unfold getE
  rw [if_neg (by omega), List.getElem?_eq_getElem h1]
theorem getE_n {α : Type} {xs : List α} {i : Nat} (h1 : i < xs.length) : getE xs (i : Int) = some xs[i] := by
  unfold getE
  rw [if_neg (by omega), Int.toNat_natCast, List.getElem?_eq_getElem h1]

/-- a loop that counts up to n: an invariant, and the rest of the loop as a way to go on -/
theorem loop_inv {σ ρ : Type} (L : Nat → Nat → σ → Option ρ) (n : Nat) (Inv : Nat → σ → Prop) (R : ρ → Prop)
    (round : ∀ m i s, i < n → Inv i s → (∀ s', Inv (i + 1) s' → Sat (L m (i + 1) s') R) → Sat (L (m + 1) i s) R)
    (fin : ∀ m s, Inv n s → Sat (L (m + 1) n s) R) : ∀ m i s, n < m + i → i ≤ n → Inv i s → Sat (L m i s) R
  | 0, i, s, h, h2, _ => by omega
  | m + 1, i, s, h, h2, hi => by
    by_cases e : i = n
    · subst e; exact fin m s hi
    · exact round m i s (by omega) hi fun s' h' => loop_inv L n Inv R round fin m (i + 1) s' (by omega) (by omega) h'
/-- a loop whose number goes down by itself -/
theorem loop_dec {σ ρ : Type} (L : Nat → σ → Option ρ) (v : σ → Nat) (Inv : σ → Prop) (R : ρ → Prop)
    (round : ∀ m s, Inv s → (∀ s', v s' < v s → Inv s' → Sat (L m s') R) → Sat (L (m + 1) s) R) : ∀ m s, v s < m → Inv s → Sat (L m s) R
  | 0, _, h, _ => by omega
  | m + 1, s, h, hi => round m s hi fun s' h1 h2 => loop_dec L v Inv R round m s' (by omega) h2

theorem take_succ_get {α : Type} {l : List α} {i : Nat} (h : i < l.length) : l.take (i + 1) = l.take i ++ [l[i]] := by
  rw [List.take_add_one, List.getElem?_eq_getElem h]; rfl
/-- two ascending lists with the same elements are equal -/
theorem asc_ext : ∀ {a b : List Int}, a.Pairwise (· < ·) → b.Pairwise (· < ·) → (∀ x, x ∈ a ↔ x ∈ b) → a = b
  | [], [], _, _, _ => rfl
  | [], y :: b, _, _, h => by have := (h y).2 (by simp); cases this
  | x :: a, [], _, _, h => by have := (h x).1 (by simp); cases this
  | x :: a, y :: b, ha, hb, h => by
    obtain ⟨ha1, ha2⟩ := List.pairwise_cons.1 ha
    obtain ⟨hb1, hb2⟩ := List.pairwise_cons.1 hb
    have e : x = y := by
      rcases List.mem_cons.1 ((h x).1 (by simp)) with e | h1
      · exact e
      · rcases List.mem_cons.1 ((h y).2 (by simp)) with e | h2
        · exact e.symm
        · have := hb1 x h1; have := ha1 y h2; omega
    subst e
    rw [asc_ext ha2 hb2 fun z => ?_]
    constructor
    · intro hz
      rcases List.mem_cons.1 ((h z).1 (by simp [hz])) with e | h1
      · subst e; exact absurd (ha1 z hz) (by omega)
      · exact h1
    · intro hz
      rcases List.mem_cons.1 ((h z).2 (by simp [hz])) with e | h1
      · subst e; exact absurd (hb1 z hz) (by omega)
      · exact h1
theorem fp_mem {α β : Type} [DecidableEq α] (a : α) (L : List (α × β)) : (∃ i b, fp a L 0 = some (i, b) ∧ L[i]? = some (a, b)) ∨ (fp a L 0 = none ∧ a ∉ L.map (·.1)) := by
  cases h : fp a L 0 with
  | none => exact .inr ⟨rfl, fun h1 => by
      obtain ⟨p, h2, h3⟩ := List.mem_map.1 h1
      exact (fp_none a L).1 h p h2 h3⟩
  | some q => obtain ⟨i, b⟩ := q; exact .inl ⟨i, b, rfl, (fp_at a L 0 i b h).2⟩
theorem upL_keys {α β : Type} [DecidableEq α] (L : List (α × β)) (a : α) (b : β) : (upL L a b).map (·.1) = if a ∈ L.map (·.1) then L.map (·.1) else L.map (·.1) ++ [a] := by
  unfold upL
  rcases fp_mem a L with ⟨i, c, h1, h2⟩ | ⟨h1, h2⟩
  · have hm : a ∈ L.map (·.1) := List.mem_map.2 ⟨_, List.mem_of_getElem? h2, rfl⟩
    rw [h1, if_pos hm]
    show (L.set i (a, b)).map (·.1) = _
    rw [List.map_set]
    apply List.ext_getElem?
    intro j
    by_cases e : i = j
    · subst e
      have hlt := (List.getElem?_eq_some_iff.1 h2).1
      rw [List.getElem?_set_self (by simpa using hlt), List.getElem?_map, h2]; rfl
    · rw [List.getElem?_set_ne e]
  · rw [h1, if_neg h2]
    show (L ++ [(a, b)]).map (·.1) = _
    rw [List.map_append]; rfl
theorem upL_mem {α β : Type} [DecidableEq α] (L : List (α × β)) (a : α) (b : β) (x : α) : x ∈ (upL L a b).map (·.1) ↔ x = a ∨ x ∈ L.map (·.1) := by
  rw [upL_keys]
  split
  · constructor
    · exact .inr
    · rintro (rfl | h) <;> assumption
  · rw [List.mem_append, List.mem_singleton]; exact Or.comm
end Go.Proofs.YtmbaennilhdieaaGreat

/- The examples of the specification, by computation. -/
namespace Go.Proofs.YtmbaennilhdieaaGreat
open Go.RowKit

end Go.Proofs.YtmbaennilhdieaaGreat
