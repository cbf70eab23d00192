/- Merged texts: part 5. No conditions of their own. -/
import Derived.Test.YtmbaennilhdieaaGreatG4
/- Pure functions and contracts of Go functions (printed by all3.py). -/
namespace Go.Proofs.YtmbaennilhdieaaGreat
open Go.RowKit Asn
set_option maxRecDepth 20000

def slices_Values_l3 (N : Nat) {σ : Type} (fy : Int → σ → Option (Bool × σ)) (a1 : (List Int)) : Nat → Int → σ → Option σ
  | 0, _, _ => none
  | m3 + 1, p4, p5 => bif decide (p4 < (a1.length : Int)) then ((getE a1 p4).bind fun x7 => (fy x7 p5).bind fun y8 => bif !y8.1 then (some y8.2) else (req (in64 (p4 + 1)) ((slices_Values_l3 N fy a1 m3) (p4 + 1) y8.2))) else (some p5)
theorem slices_Values_l3_s {N m3 : Nat} {σ : Type} {fy : Int → σ → Option (Bool × σ)} {a1 : (List Int)} {p4 : Int} {p5 : σ} : slices_Values_l3 N fy a1 (m3 + 1) p4 p5 = bif decide (p4 < (a1.length : Int)) then ((getE a1 p4).bind fun x7 => (fy x7 p5).bind fun y8 => bif !y8.1 then (some y8.2) else (req (in64 (p4 + 1)) ((slices_Values_l3 N fy a1 m3) (p4 + 1) y8.2))) else (some p5) := rfl
def slices_Values_O (N : Nat) {σ : Type} (a1 : (List Int)) (fy : Int → σ → Option (Bool × σ)) (s0 : σ) : Option σ :=
  slices_Values_l3 N fy a1 N 0 s0
theorem slices_Values_ok {N : Nat} {σ : Type} {a1 : (List Int)} {fy : Int → σ → Option (Bool × σ)} {s0 : σ} {r : σ} (h : slices_Values_O N a1 fy s0 = some r) {B1 : Nat} {A2 : Option Addr} {n2 c2 : Nat} {l : Nat} {G : σ → List Chunk} (hY : YieldOk Tryz.prog l G (fun x => [.int .i64 x]) fy) : Okc Tryz.prog 116 [.func (.yield l) #[] #[], .pointer (some ⟨B1, 0, none⟩)] (rboxC B1 35 [.slice A2 n2 c2] :: slC (rInt .i64) (.slice A2 n2 c2) a1 :: (G s0)) (fun (u : Value) (post : List Chunk) => u = .tuple #[] ∧ post = G r) := by
  refine ok_E Tryz.func116 rfl rfl ?_
  simp only [envOf]
  refine run ?_
  refine G_rd (rd_rbox1 0 rfl rfl one35 rfl) rfl rfl rfl ?_
  refine G_rd (rd_len 1 rfl els_sl rfl Tryz.underlying35) rfl rfl rfl ?_
  refine run ?_
  refine G_loopF (fun m s L => ∃ (p4 : Int) (p5 : σ), slices_Values_l3 N fy a1 m p4 p5 = some r ∧ s = [(0, .func (.yield l) #[] #[]), (5, .slice A2 n2 c2), (6, .int .i64 (a1.length : Int)), (7, .int .i64 p4)] ∧ L = slC (rInt .i64) (.slice A2 n2 c2) a1 :: (G p5)) N _ _ ⟨0, s0, h, rfl, rfl⟩ (sub_cons rfl (sub_cons rfl (sub_cons rfl (sub_cons rfl sub_nil)))) (cv_sel [1] 2 rfl rfl) ?_
  rintro (_ | m3) _ _ ⟨p4, p5, h, rfl, rfl⟩
  · exact none_some h
  rw [slices_Values_l3_s] at h
  refine run ?_
  refine G_seq ?_
  refine G_cond rfl (fun g6 => ?_) (fun g6 => ?_)
  · replace h := cond_t g6 h
    refine run ?_
    refine G_seq ?_
    refine run ?_
    obtain ⟨x7, hx7, h⟩ := bind_elim h
    obtain ⟨lx7, ux7, hx7⟩ := getE_elim hx7
    refine G_rd (rd_idx 0 rfl els_sl rfl rfl Tryz.underlying35 size3 lx7 ux7) rfl rfl rfl ?_
    refine G_rd (rd_elem1 (u := .int .i64 x7) 0 rfl els_sl rfl hx7 one3 (fun _ _ _ h => by rw [show _ = _ from h]; rfl)) rfl rfl rfl ?_
    refine run ?_
    obtain ⟨y8, hy8, h⟩ := bind_elim h
    refine G_opd (op_yieldE (a := x7) [slC (rInt .i64) (.slice A2 n2 c2) a1] hY hy8 rfl rfl) rfl rfl rfl ?_
    rintro _ _ ⟨rfl, rfl⟩
    refine G_norm (slC (rInt .i64) (.slice A2 n2 c2) a1 :: (G y8.2)) rfl ?_
    refine run ?_
    refine G_cond rfl (fun g9 => ?_) (fun g9 => ?_)
    · replace h := cond_t g9 h
      refine run ?_
      obtain rfl := Option.some.inj h
      exact endG0 rfl (cv_sel [] 1 rfl rfl) ⟨rfl, rfl⟩
    · replace h := cond_f g9 h
      refine run ?_
      obtain ⟨q10, h⟩ := req_elim h
      refine G_ev (ev_add rfl rfl q10.1 q10.2) rfl rfl rfl ?_
      refine run ?_
      exact ⟨m3, _, _, Nat.lt_succ_self _, ⟨p4 + 1, y8.2, h, rfl, rfl⟩, sub_cons rfl (sub_cons rfl (sub_cons rfl (sub_cons rfl sub_nil))), cv_sel [0] 1 rfl rfl⟩
  · replace h := cond_f g6 h
    refine run ?_
    obtain rfl := Option.some.inj h
    exact endG0n rfl (cv_sel [] 1 rfl rfl) ⟨rfl, rfl⟩
def slices_Values_61_O (N : Nat) (a0 : (List Int)) : Option Unit :=
  some ()
theorem slices_Values_61_ok {N : Nat} {a0 : (List Int)} {r : Unit} (h : slices_Values_61_O N a0 = some r) {A1 : Option Addr} {n1 c1 : Nat} : Okc Tryz.prog 61 [.slice A1 n1 c1] ([slC (rInt .i64) (.slice A1 n1 c1) a0]) (fun (u : Value) (post : List Chunk) => ∃ B900, u = .func (.func 116) #[] #[.pointer (some ⟨B900, 0, none⟩)] ∧ post = [boxC B900 35 [.slice A1 n1 c1]]) := by
  refine ok_E Tryz.func61 rfl rfl ?_
  simp only [envOf]
  refine run ?_
  refine G_opd (op_box rfl rfl) rfl rfl rfl ?_
  rintro _ _ ⟨B2, rfl, rfl⟩
  refine run ?_
  refine G_ev (ev_makeFunc rfl) rfl rfl rfl ?_
  refine run ?_
  obtain rfl := Option.some.inj h
  exact endG1 rfl rfl (cv_sel [0] 2 rfl rfl) ⟨_, rfl, rfl⟩
theorem slices_Values_61_free {A1 : Option Addr} {n1 : Nat} {c1 : Nat} : ∀ v post, ((fun (u : Value) (post : List Chunk) => ∃ B900, u = .func (.func 116) #[] #[.pointer (some ⟨B900, 0, none⟩)] ∧ post = [boxC B900 35 [.slice A1 n1 c1]])) v post → ∀ c ∈ post, Free c := by
  rintro _ _ ⟨_, rfl, rfl⟩; exact mem_cons free_box (mem_nil)
def slices_AppendSeq_V_b5 (N : Nat) (x5 : Int) : ((List Int)) → Option (Option Exit × (List Int))
  | p6 => req (fitsL (p6.length + ([x5] : List Int).length)) (some (none, p6 ++ ([x5] : List Int)))
def slices_AppendSeq_V_O (N : Nat) (a0 : (List Int)) (a1_0 : (List Int)) : Option (List Int) :=
  (slices_Values_O N a1_0 (liftR (fun x st => slices_AppendSeq_V_b5 N x st)) (none, a0)).bind fun y7 => caseX y7.1 (some y7.2) none (fun _ => none)
theorem slices_AppendSeq_V_ok {N : Nat} {a0 : (List Int)} {a1_0 : (List Int)} {r : (List Int)} (h : slices_AppendSeq_V_O N a0 a1_0 = some r) {B2 : Nat} {A3 : Option Addr} {n3 c3 : Nat} {A1 : Option Addr} {n1 c1 : Nat} : Okc Tryz.prog 167 [.slice A1 n1 c1, .func (.func 116) #[] #[.pointer (some ⟨B2, 0, none⟩)]] ([rboxC B2 35 [.slice A3 n3 c3], slC (rInt .i64) (.slice A3 n3 c3) a1_0, ownC (rInt .i64) 3 (.slice A1 n1 c1) a0]) (fun (u : Value) (post : List Chunk) => ∃ A0 n0 c0, u = .slice A0 n0 c0 ∧ post = [ownC (rInt .i64) 3 (.slice A0 n0 c0) r]) := by
  refine ok_E Tryz.func167 rfl rfl ?_
  simp only [envOf]
  refine run ?_
  refine G_opd (op_box rfl rfl) rfl rfl rfl ?_
  rintro _ _ ⟨B4, rfl, rfl⟩
  refine run ?_
  refine G_seq ?_
  refine run ?_
  obtain ⟨y7, hy7, h⟩ := bind_elim h
  refine G_rangeX (en := (fun x => [.int .i64 x])) (fun x st => slices_AppendSeq_V_b5 N x st) (fun (st : (List Int)) (mz : ((Option Addr × Nat × Nat))) => [ownC (rInt .i64) 3 (.slice mz.1 mz.2.1 mz.2.2) st, boxC B4 35 [.slice mz.1 mz.2.1 mz.2.2]]) [rboxC B2 35 [.slice A3 n3 c3], slC (rInt .i64) (.slice A3 n3 c3) a1_0] (a0) ((A1, n1, c1)) rfl rfl call116 rfl (fun _ => rfl) (fun l G hY => (slices_Values_ok hy7 hY).mono fun _ _ hh => hh.2) (cv_take [1, 2] [] [3, 0] 4 rfl) h ?_ ?_ ?_ ?_
  · rintro l x5 p6 je sr5 ⟨A6, n6, c6⟩ h
    replace h : slices_AppendSeq_V_b5 N x5 p6 = some (je, sr5) := h
    simp only [envR, List.zip_cons_cons, List.zip_nil_left, List.zip_nil_right, List.reverse_cons, List.reverse_nil, List.nil_append, List.cons_append]
    refine run ?_
    refine G_opd (op_bslice (R := (rInt .i64)) (vss := [[.int .i64 x5]]) (xs := [x5]) rfl (bsl_35_1 _) rfl rfl (fun _ _ hr => .cons rfl All2.nil)) rfl rfl rfl ?_
    rintro _ _ ⟨A8, n8, c8, rfl, rfl⟩
    obtain ⟨q9, h⟩ := req_elim h
    refine G_opd (op_append 1 0 rfl rfl els_own rfl rfl Tryz.underlying35 zb3 rfl rfl q9) rfl rfl rfl ?_
    rintro _ _ ⟨A10, n10, c10, rfl, rfl⟩
    refine G_norm ([ownC (rInt .i64) 3 (.slice A8 n8 c8) ([x5] : List Int), ownC (rInt .i64) 3 (.slice A10 n10 c10) (p6 ++ ([x5] : List Int)), boxC B4 35 [.slice A6 n6 c6]]) rfl ?_
    refine G_opn (op_store (us := [.slice A10 n10 c10]) (cs' := [.slice A10 n10 c10]) 2 rfl rfl rfl rfl size35 rfl rfl rfl) rfl rfl ?_
    rintro _ _ rfl
    refine G_norm ([ownC (rInt .i64) 3 (.slice A8 n8 c8) ([x5] : List Int), ownC (rInt .i64) 3 (.slice A10 n10 c10) (p6 ++ ([x5] : List Int)), boxC B4 35 [.slice A10 n10 c10]]) rfl ?_
    refine run ?_
    obtain ⟨rfl, rfl⟩ := Prod.mk.inj (Option.some.inj h)
    exact RK_n ((cv_sel [1, 2] 3 rfl rfl).trans (cv_pack1 (A10, n10, c10) rfl))
  · rintro ⟨A6, n6, c6⟩ h
    refine K3_norm ([ownC (rInt .i64) 3 (.slice A6 n6 c6) y7.2, boxC B4 35 [.slice A6 n6 c6]]) rfl ?_
    refine run ?_
    obtain rfl := Option.some.inj h
    exact endG1 rfl rfl (cv_sel [0] 2 rfl rfl) ⟨_, _, _, rfl, rfl⟩
  · rintro ⟨A6, n6, c6⟩ h
    exact none_some h
  · rintro i ⟨A6, n6, c6⟩ h
    exact none_some h
def slices_Collect_V_O (N : Nat) (a0_0 : (List Int)) : Option (List Int) :=
  (slices_AppendSeq_V_O N ([] : List Int) a0_0).bind fun y4 => some y4
theorem slices_Collect_V_ok {N : Nat} {a0_0 : (List Int)} {r : (List Int)} (h : slices_Collect_V_O N a0_0 = some r) {B1 : Nat} {A2 : Option Addr} {n2 c2 : Nat} : Okc Tryz.prog 115 [.func (.func 116) #[] #[.pointer (some ⟨B1, 0, none⟩)]] ([rboxC B1 35 [.slice A2 n2 c2], slC (rInt .i64) (.slice A2 n2 c2) a0_0]) (fun (u : Value) (post : List Chunk) => ∃ A0 n0 c0, u = .slice A0 n0 c0 ∧ post = [ownC (rInt .i64) 3 (.slice A0 n0 c0) r]) := by
  refine ok_E Tryz.func115 rfl rfl ?_
  simp only [envOf]
  refine runS ?_
  refine runE ?_
  refine runS ?_
  refine runE ?_
  refine G_cv (cv_nil (rInt .i64) 3 _) ?_
  obtain ⟨y4, hy4, h⟩ := bind_elim h
  refine G_opd (op_call (slices_AppendSeq_V_ok hy4) call167 rfl (cv_take [1, 2] [0] [1, 2] 3 rfl)) rfl rfl rfl ?_
  rintro _ _ ⟨_, ⟨A5, n5, c5, rfl, rfl⟩, rfl⟩
  refine G_norm ([ownC (rInt .i64) 3 (.slice A5 n5 c5) y4, rboxC B1 35 [.slice A2 n2 c2], slC (rInt .i64) (.slice A2 n2 c2) a0_0]) rfl ?_
  refine run ?_
  obtain rfl := Option.some.inj h
  exact endG1 rfl rfl (cv_sel [0] 3 rfl rfl) ⟨_, _, _, rfl, rfl⟩
theorem slices_Collect_V_free {r : (List Int)} : ∀ v post, ((fun (u : Value) (post : List Chunk) => ∃ A0 n0 c0, u = .slice A0 n0 c0 ∧ post = [ownC (rInt .i64) 3 (.slice A0 n0 c0) r])) v post → ∀ c ∈ post, Free c := by
  rintro _ _ ⟨_, _, _, rfl, rfl⟩; exact mem_cons free_own (mem_nil)
def slices_Sorted_V_O (N : Nat) (a0_0 : (List Int)) : Option (List Int) :=
  (slices_Collect_V_O N a0_0).bind fun y3 => (slices_Sort_O N y3).bind fun y5 => some y5
theorem slices_Sorted_V_ok {N : Nat} {a0_0 : (List Int)} {r : (List Int)} (h : slices_Sorted_V_O N a0_0 = some r) {B1 : Nat} {A2 : Option Addr} {n2 c2 : Nat} : Okc Tryz.prog 60 [.func (.func 116) #[] #[.pointer (some ⟨B1, 0, none⟩)]] ([rboxC B1 35 [.slice A2 n2 c2], slC (rInt .i64) (.slice A2 n2 c2) a0_0]) (fun (u : Value) (post : List Chunk) => ∃ A0 n0 c0, u = .slice A0 n0 c0 ∧ post = [ownC (rInt .i64) 3 (.slice A0 n0 c0) r]) := by
  refine ok_E Tryz.func60 rfl rfl ?_
  simp only [envOf]
  refine run ?_
  obtain ⟨y3, hy3, h⟩ := bind_elim h
  refine G_opd (op_callR (slices_Collect_V_ok hy3) call115 rfl (mem_cons (lent_ro (i := 0) rfl rfl) (mem_cons (lent_ro (i := 1) rfl rfl) mem_nil)) slices_Collect_V_free) rfl rfl rfl ?_
  rintro _ _ ⟨_, ⟨A4, n4, c4, rfl, rfl⟩, rfl⟩
  refine run ?_
  obtain ⟨y5, hy5, h⟩ := bind_elim h
  refine G_opd (op_call (slices_Sort_ok hy5) call66 rfl (cv_take [] [0] [1, 2] 3 rfl)) rfl rfl rfl ?_
  rintro _ _ ⟨_, ⟨rfl, rfl⟩, rfl⟩
  refine G_norm ([ownC (rInt .i64) 3 (.slice A4 n4 c4) y5, rboxC B1 35 [.slice A2 n2 c2], slC (rInt .i64) (.slice A2 n2 c2) a0_0]) rfl ?_
  refine run ?_
  obtain rfl := Option.some.inj h
  exact endG1 rfl rfl (cv_sel [0] 3 rfl rfl) ⟨_, _, _, rfl, rfl⟩
theorem slices_Sorted_V_free {r : (List Int)} : ∀ v post, ((fun (u : Value) (post : List Chunk) => ∃ A0 n0 c0, u = .slice A0 n0 c0 ∧ post = [ownC (rInt .i64) 3 (.slice A0 n0 c0) r])) v post → ∀ c ∈ post, Free c := by
  rintro _ _ ⟨_, _, _, rfl, rfl⟩; exact mem_cons free_own (mem_nil)
def reach_Strong_O (N : Nat) (a0 : DMemory) (a1 : (List DValue)) : Option (List Int) :=
  (reach_begin_O N a0 a1).bind fun y5 => (slices_Values_61_O N y5.all_).bind fun y11 => (slices_Sorted_V_O N y5.all_).bind fun y13 => some y13
theorem reach_Strong_ok {N : Nat} {a0 : DMemory} {a1 : (List DValue)} {r : (List Int)} (h : reach_Strong_O N a0 a1 = some r) {A1 : Option Addr} {n1 c1 : Nat} {A2 : Option Addr} {n2 c2 : Nat} {A3 : Option Addr} {n3 c3 : Nat} : Okc Tryz.prog 21 [.agg #[.slice A1 n1 c1, .slice A2 n2 c2], .slice A3 n3 c3] ([slC rDCell (.slice A1 n1 c1) a0.Young, slC rDCell (.slice A2 n2 c2) a0.Old, slC rDValue (.slice A3 n3 c3) a1]) (fun (u : Value) (post : List Chunk) => ∃ A0 n0 c0, u = .slice A0 n0 c0 ∧ post = [ownC (rInt .i64) 3 (.slice A0 n0 c0) r]) := by
  refine ok_E Tryz.func21 rfl rfl ?_
  simp only [envOf]
  refine run ?_
  refine G_opd (op_box rfl rfl) rfl rfl rfl ?_
  rintro _ _ ⟨B4, rfl, rfl⟩
  refine run ?_
  refine G_rd (rd_boxS (us := [.slice A1 n1 c1, .slice A2 n2 c2]) 0 rfl rfl agg24 rfl) rfl rfl rfl ?_
  refine run ?_
  obtain ⟨y5, hy5, h⟩ := bind_elim h
  refine G_opd (op_call (reach_begin_ok hy5) call62 rfl (cv_take [1, 2, 3] [] [0, 1, 2, 3] 4 rfl)) rfl rfl rfl ?_
  rintro _ _ ⟨_, ⟨B6, A7, n7, c7, A8, n8, c8, A9, n9, c9, M10, rfl, rfl⟩, rfl⟩
  refine G_norm ([boxC B6 79 [.slice A7 n7 c7, .slice A8 n8 c8, .slice A9 n9 c9, .map (some M10), .int .i64 y5.done_], slC rDCell (.slice A7 n7 c7) y5.m_.Young, slC rDCell (.slice A8 n8 c8) y5.m_.Old, ownC (rInt .i64) 3 (.slice A9 n9 c9) y5.all_, mapC ekI evU M10 y5.met_, boxC B4 24 [.slice A1 n1 c1, .slice A2 n2 c2], slC rDCell (.slice A1 n1 c1) a0.Young, slC rDCell (.slice A2 n2 c2) a0.Old, slC rDValue (.slice A3 n3 c3) a1]) rfl ?_
  refine run ?_
  obtain ⟨y11, hy11, h⟩ := bind_elim h
  refine G_opd (op_callR (slices_Values_61_ok hy11) call61 rfl (mem_cons (lent_own (i := 3) rfl) mem_nil) slices_Values_61_free) rfl rfl rfl ?_
  rintro _ _ ⟨_, ⟨B12, rfl, rfl⟩, rfl⟩
  obtain ⟨y13, hy13, h⟩ := bind_elim h
  refine G_opd (op_callR (slices_Sorted_V_ok hy13) call60 rfl (mem_cons (lent_box (i := 0) rfl) (mem_cons (lent_own (i := 4) rfl) mem_nil)) slices_Sorted_V_free) rfl rfl rfl ?_
  rintro _ _ ⟨_, ⟨A14, n14, c14, rfl, rfl⟩, rfl⟩
  refine run ?_
  obtain rfl := Option.some.inj h
  exact endG1 rfl rfl (cv_sel [0] 11 rfl rfl) ⟨_, _, _, rfl, rfl⟩
theorem reach_Strong_free {r : (List Int)} : ∀ v post, ((fun (u : Value) (post : List Chunk) => ∃ A0 n0 c0, u = .slice A0 n0 c0 ∧ post = [ownC (rInt .i64) 3 (.slice A0 n0 c0) r])) v post → ∀ c ∈ post, Free c := by
  rintro _ _ ⟨_, _, _, rfl, rfl⟩; exact mem_cons free_own (mem_nil)
def pantomimelaw19_goes_O (N : Nat) : Option Bool :=
  (pantomimelaw19_object_O N 3).bind fun y1 => (pantomimelaw19_object_O N 2).bind fun y2 => (pantomimelaw19_object_O N 3).bind fun y8 => (pantomimelaw19_object_O N 5).bind fun y9 => (pantomimelaw19_object_O N 1).bind fun y13 => (reach_Order_O N (⟨([(⟨11, 0, 0, 0, [], ([y1, y2] : List DValue)⟩ : DCell), (⟨11, 0, 0, 0, [], []⟩ : DCell)] : List DCell), ([(⟨11, 0, 0, 0, [], []⟩ : DCell)] : List DCell)⟩ : DMemory) ([y13] : List DValue)).bind fun y16 => (pantomimeref19_Same_O N y16 ([1, 3, 2] : List Int)).bind fun y21 => (bif y21 then ((pantomimelaw19_object_O N 1).bind fun y23 => (reach_Live_O N (⟨([(⟨11, 0, 0, 0, [], ([y1, y2] : List DValue)⟩ : DCell), (⟨11, 0, 0, 0, [], []⟩ : DCell)] : List DCell), ([(⟨11, 0, 0, 0, [], []⟩ : DCell)] : List DCell)⟩ : DMemory) ([y23] : List DValue)).bind fun y26 => (pantomimeref19_Same_O N y26 ([1, 2, 3] : List Int)).bind fun y31 => some y31) else (some false)).bind fun b22 => ((bif b22 then ((pantomimelaw19_object_O N 1).bind fun y33 => (reach_Live_O N (⟨([(⟨8, 0, 0, 0, ([(⟨1, 0, ⟨#[]⟩⟩ : DValue)] : List DValue), ([y8, y9] : List DValue)⟩ : DCell), (⟨11, 0, 0, 0, [], []⟩ : DCell), (⟨11, 0, 0, 0, [], []⟩ : DCell)] : List DCell), []⟩ : DMemory) ([y33] : List DValue)).bind fun y36 => (pantomimeref19_Same_O N y36 ([1] : List Int)).bind fun y41 => some y41) else (some false)).bind fun b32 => ((bif b32 then ((pantomimelaw19_object_O N 1).bind fun y43 => (pantomimelaw19_object_O N 3).bind fun y44 => (reach_Live_O N (⟨([(⟨8, 0, 0, 0, ([(⟨1, 0, ⟨#[]⟩⟩ : DValue)] : List DValue), ([y8, y9] : List DValue)⟩ : DCell), (⟨11, 0, 0, 0, [], []⟩ : DCell), (⟨11, 0, 0, 0, [], []⟩ : DCell)] : List DCell), []⟩ : DMemory) ([y43, y44] : List DValue)).bind fun y47 => (pantomimeref19_Same_O N y47 ([1, 3, 5] : List Int)).bind fun y52 => some y52) else (some false)).bind fun b42 => ((bif b42 then ((pantomimelaw19_object_O N 1).bind fun y54 => (pantomimelaw19_object_O N 3).bind fun y55 => (reach_Strong_O N (⟨([(⟨8, 0, 0, 0, ([(⟨1, 0, ⟨#[]⟩⟩ : DValue)] : List DValue), ([y8, y9] : List DValue)⟩ : DCell), (⟨11, 0, 0, 0, [], []⟩ : DCell), (⟨11, 0, 0, 0, [], []⟩ : DCell)] : List DCell), []⟩ : DMemory) ([y54, y55] : List DValue)).bind fun y58 => (pantomimeref19_Same_O N y58 ([1, 3] : List Int)).bind fun y63 => some y63) else (some false)).bind fun b53 => (some b53))))
set_option maxHeartbeats 4000000 in
theorem pantomimelaw19_goes_ok {N : Nat} {r : Bool} (h : pantomimelaw19_goes_O N = some r) : Okc Tryz.prog 11 [] ([]) (fun (u : Value) (post : List Chunk) => u = .bool r ∧ post = []) := by
  refine ok_E Tryz.func11 rfl rfl ?_
  simp only [envOf]
  refine run ?_
  obtain ⟨y1, hy1, h⟩ := bind_elim h
  refine G_opd (op_callR (pantomimelaw19_object_ok hy1) call47 rfl (mem_nil) pantomimelaw19_object_free) rfl rfl rfl ?_
  rintro _ _ ⟨_, ⟨rfl, rfl⟩, rfl⟩
  obtain ⟨y2, hy2, h⟩ := bind_elim h
  refine G_opd (op_callR (pantomimelaw19_object_ok hy2) call47 rfl (mem_nil) pantomimelaw19_object_free) rfl rfl rfl ?_
  rintro _ _ ⟨_, ⟨rfl, rfl⟩, rfl⟩
  refine G_opd (op_bslice (R := rDValue) (vss := [[.int .i64 y1.Kind, .int .i64 y1.N, .string y1.S], [.int .i64 y2.Kind, .int .i64 y2.N, .string y2.S]]) (xs := [y1, y2]) rfl (bsl_25_2 _ _ _ _ _ _) rfl rfl (fun _ _ hr => .cons rfl (.cons rfl All2.nil))) rfl rfl rfl ?_
  rintro _ _ ⟨A3, n3, c3, rfl, rfl⟩
  refine G_ev (ev_build rfl (bld_32_0_5 _ _ _ _)) rfl rfl rfl ?_
  refine G_ev (ev_build rfl (bld_32_0 _)) rfl rfl rfl ?_
  refine G_cv (cv_frz 0 rfl) ?_
  refine G_norm ([slC rDValue (.slice A3 n3 c3) ([y1, y2] : List DValue)]) rfl ?_
  refine G_opd (op_bslice (R := rDCell) (vss := [[.int .i64 11, .int .i64 0, .int .i64 0, .int .i64 0, .slice none 0 0, .slice A3 n3 c3], [.int .i64 11, .int .i64 0, .int .i64 0, .int .i64 0, .slice none 0 0, .slice none 0 0]]) (xs := [(⟨11, 0, 0, 0, [], ([y1, y2] : List DValue)⟩ : DCell), (⟨11, 0, 0, 0, [], []⟩ : DCell)]) rfl (bsl_22_2 _ _ _ _ _ _ _ _ _ _ _ _ _ _ _ _ _ _ _ _) rfl rfl (fun _ _ hr => .cons (⟨_, _, _, _, _, _, rfl, slR_nil _ _ _, hr 0 _ rfl rfl⟩) (.cons (⟨_, _, _, _, _, _, rfl, slR_nil _ _ _, slR_nil _ _ _⟩) All2.nil))) rfl rfl rfl ?_
  rintro _ _ ⟨A4, n4, c4, rfl, rfl⟩
  refine G_ev (ev_build rfl (bld_32_0 _)) rfl rfl rfl ?_
  refine G_opd (op_bslice (R := rDCell) (vss := [[.int .i64 11, .int .i64 0, .int .i64 0, .int .i64 0, .slice none 0 0, .slice none 0 0]]) (xs := [(⟨11, 0, 0, 0, [], []⟩ : DCell)]) rfl (bsl_22_1 _ _ _ _ _ _ _ _ _ _) rfl rfl (fun _ _ hr => .cons (⟨_, _, _, _, _, _, rfl, slR_nil _ _ _, slR_nil _ _ _⟩) All2.nil)) rfl rfl rfl ?_
  rintro _ _ ⟨A5, n5, c5, rfl, rfl⟩
  refine G_ev (ev_build rfl (bld_24_0_1 _ _ _ _ _ _)) rfl rfl rfl ?_
  refine G_opd (op_alloc zero24 rfl) rfl rfl rfl ?_
  rintro _ _ ⟨B6, rfl, rfl⟩
  refine G_opn (op_store (us := [.slice A4 n4 c4, .slice A5 n5 c5]) (cs' := [.slice A4 n4 c4, .slice A5 n5 c5]) 0 rfl rfl rfl rfl size24 rfl rfl rfl) rfl rfl ?_
  rintro _ _ rfl
  refine G_norm ([boxC B6 24 [.slice A4 n4 c4, .slice A5 n5 c5], ownC rDCell 32 (.slice A5 n5 c5) ([(⟨11, 0, 0, 0, [], []⟩ : DCell)] : List DCell), ownC rDCell 32 (.slice A4 n4 c4) ([(⟨11, 0, 0, 0, [], ([y1, y2] : List DValue)⟩ : DCell), (⟨11, 0, 0, 0, [], []⟩ : DCell)] : List DCell), slC rDValue (.slice A3 n3 c3) ([y1, y2] : List DValue)]) rfl ?_
  refine run ?_
  refine G_ev (ev_build rfl (bld_38_0 _)) rfl rfl rfl ?_
  refine G_opd (op_bslice (R := rDValue) (vss := [[.int .i64 1, .int .i64 0, .string (⟨#[]⟩)]]) (xs := [(⟨1, 0, ⟨#[]⟩⟩ : DValue)]) rfl (bsl_25_1 _ _ _) rfl rfl (fun _ _ hr => .cons rfl All2.nil)) rfl rfl rfl ?_
  rintro _ _ ⟨A7, n7, c7, rfl, rfl⟩
  obtain ⟨y8, hy8, h⟩ := bind_elim h
  refine G_opd (op_callR (pantomimelaw19_object_ok hy8) call47 rfl (mem_nil) pantomimelaw19_object_free) rfl rfl rfl ?_
  rintro _ _ ⟨_, ⟨rfl, rfl⟩, rfl⟩
  obtain ⟨y9, hy9, h⟩ := bind_elim h
  refine G_opd (op_callR (pantomimelaw19_object_ok hy9) call47 rfl (mem_nil) pantomimelaw19_object_free) rfl rfl rfl ?_
  rintro _ _ ⟨_, ⟨rfl, rfl⟩, rfl⟩
  refine G_opd (op_bslice (R := rDValue) (vss := [[.int .i64 y8.Kind, .int .i64 y8.N, .string y8.S], [.int .i64 y9.Kind, .int .i64 y9.N, .string y9.S]]) (xs := [y8, y9]) rfl (bsl_25_2 _ _ _ _ _ _) rfl rfl (fun _ _ hr => .cons rfl (.cons rfl All2.nil))) rfl rfl rfl ?_
  rintro _ _ ⟨A10, n10, c10, rfl, rfl⟩
  refine G_ev (ev_build rfl (bld_32_0_4_5 _ _ _ _ _ _ _)) rfl rfl rfl ?_
  refine G_ev (ev_build rfl (bld_32_0 _)) rfl rfl rfl ?_
  refine G_ev (ev_build rfl (bld_32_0 _)) rfl rfl rfl ?_
  refine G_cv (cv_frz 1 rfl) ?_
  refine G_norm ([ownC rDValue 38 (.slice A10 n10 c10) ([y8, y9] : List DValue), slC rDValue (.slice A7 n7 c7) ([(⟨1, 0, ⟨#[]⟩⟩ : DValue)] : List DValue), boxC B6 24 [.slice A4 n4 c4, .slice A5 n5 c5], ownC rDCell 32 (.slice A5 n5 c5) ([(⟨11, 0, 0, 0, [], []⟩ : DCell)] : List DCell), ownC rDCell 32 (.slice A4 n4 c4) ([(⟨11, 0, 0, 0, [], ([y1, y2] : List DValue)⟩ : DCell), (⟨11, 0, 0, 0, [], []⟩ : DCell)] : List DCell), slC rDValue (.slice A3 n3 c3) ([y1, y2] : List DValue)]) rfl ?_
  refine G_cv (cv_frz 0 rfl) ?_
  refine G_norm ([slC rDValue (.slice A10 n10 c10) ([y8, y9] : List DValue), slC rDValue (.slice A7 n7 c7) ([(⟨1, 0, ⟨#[]⟩⟩ : DValue)] : List DValue), boxC B6 24 [.slice A4 n4 c4, .slice A5 n5 c5], ownC rDCell 32 (.slice A5 n5 c5) ([(⟨11, 0, 0, 0, [], []⟩ : DCell)] : List DCell), ownC rDCell 32 (.slice A4 n4 c4) ([(⟨11, 0, 0, 0, [], ([y1, y2] : List DValue)⟩ : DCell), (⟨11, 0, 0, 0, [], []⟩ : DCell)] : List DCell), slC rDValue (.slice A3 n3 c3) ([y1, y2] : List DValue)]) rfl ?_
  refine G_opd (op_bslice (R := rDCell) (vss := [[.int .i64 8, .int .i64 0, .int .i64 0, .int .i64 0, .slice A7 n7 c7, .slice A10 n10 c10], [.int .i64 11, .int .i64 0, .int .i64 0, .int .i64 0, .slice none 0 0, .slice none 0 0], [.int .i64 11, .int .i64 0, .int .i64 0, .int .i64 0, .slice none 0 0, .slice none 0 0]]) (xs := [(⟨8, 0, 0, 0, ([(⟨1, 0, ⟨#[]⟩⟩ : DValue)] : List DValue), ([y8, y9] : List DValue)⟩ : DCell), (⟨11, 0, 0, 0, [], []⟩ : DCell), (⟨11, 0, 0, 0, [], []⟩ : DCell)]) rfl (bsl_22_3 _ _ _ _ _ _ _ _ _ _ _ _ _ _ _ _ _ _ _ _ _ _ _ _ _ _ _ _ _ _) rfl rfl (fun _ _ hr => .cons (⟨_, _, _, _, _, _, rfl, hr 1 _ rfl rfl, hr 0 _ rfl rfl⟩) (.cons (⟨_, _, _, _, _, _, rfl, slR_nil _ _ _, slR_nil _ _ _⟩) (.cons (⟨_, _, _, _, _, _, rfl, slR_nil _ _ _, slR_nil _ _ _⟩) All2.nil)))) rfl rfl rfl ?_
  rintro _ _ ⟨A11, n11, c11, rfl, rfl⟩
  refine G_ev (ev_build rfl (bld_24_0 _ _ _)) rfl rfl rfl ?_
  refine G_opd (op_alloc zero24 rfl) rfl rfl rfl ?_
  rintro _ _ ⟨B12, rfl, rfl⟩
  refine G_opn (op_store (us := [.slice A11 n11 c11, .slice none 0 0]) (cs' := [.slice A11 n11 c11, .slice none 0 0]) 0 rfl rfl rfl rfl size24 rfl rfl rfl) rfl rfl ?_
  rintro _ _ rfl
  refine G_norm ([boxC B12 24 [.slice A11 n11 c11, .slice none 0 0], ownC rDCell 32 (.slice A11 n11 c11) ([(⟨8, 0, 0, 0, ([(⟨1, 0, ⟨#[]⟩⟩ : DValue)] : List DValue), ([y8, y9] : List DValue)⟩ : DCell), (⟨11, 0, 0, 0, [], []⟩ : DCell), (⟨11, 0, 0, 0, [], []⟩ : DCell)] : List DCell), slC rDValue (.slice A10 n10 c10) ([y8, y9] : List DValue), slC rDValue (.slice A7 n7 c7) ([(⟨1, 0, ⟨#[]⟩⟩ : DValue)] : List DValue), boxC B6 24 [.slice A4 n4 c4, .slice A5 n5 c5], ownC rDCell 32 (.slice A5 n5 c5) ([(⟨11, 0, 0, 0, [], []⟩ : DCell)] : List DCell), ownC rDCell 32 (.slice A4 n4 c4) ([(⟨11, 0, 0, 0, [], ([y1, y2] : List DValue)⟩ : DCell), (⟨11, 0, 0, 0, [], []⟩ : DCell)] : List DCell), slC rDValue (.slice A3 n3 c3) ([y1, y2] : List DValue)]) rfl ?_
  refine run ?_
  refine G_seq ?_
  obtain ⟨y13, hy13, h⟩ := bind_elim h
  obtain ⟨y16, hy16, h⟩ := bind_elim h
  obtain ⟨y21, hy21, h⟩ := bind_elim h
  obtain ⟨b22, hb22, h⟩ := bind_elim h
  obtain ⟨c22, hc22⟩ : ∃ c, y21 = c := ⟨_, rfl⟩
  obtain ⟨y23, y26, y31, hs22⟩ : ∃ (y23 : (DValue)) (y26 : ((List Int))) (y31 : (Bool)), c22 = true → ((pantomimelaw19_object_O N 1) = some y23 ∧ (reach_Live_O N (⟨([(⟨11, 0, 0, 0, [], ([y1, y2] : List DValue)⟩ : DCell), (⟨11, 0, 0, 0, [], []⟩ : DCell)] : List DCell), ([(⟨11, 0, 0, 0, [], []⟩ : DCell)] : List DCell)⟩ : DMemory) ([y23] : List DValue)) = some y26 ∧ (pantomimeref19_Same_O N y26 ([1, 2, 3] : List Int)) = some y31 ∧ y31 = b22) := by
    cases c22
    · exact ⟨default, default, default, fun e => by cases e⟩
    · replace hb22 := cond_t hc22 hb22
      obtain ⟨y23, hy23, hb22⟩ := bind_elim hb22
      obtain ⟨y26, hy26, hb22⟩ := bind_elim hb22
      obtain ⟨y31, hy31, hb22⟩ := bind_elim hb22
      exact ⟨y23, y26, y31, fun _ => ⟨hy23, hy26, hy31, Option.some.inj hb22⟩⟩
  have ho22 : c22 = false → b22 = false := fun e => (Option.some.inj (cond_f (hc22.trans e) hb22)).symm
  obtain ⟨b32, hb32, h⟩ := bind_elim h
  obtain ⟨c32, hc32⟩ : ∃ c, b22 = c := ⟨_, rfl⟩
  obtain ⟨y33, y36, y41, hs32⟩ : ∃ (y33 : (DValue)) (y36 : ((List Int))) (y41 : (Bool)), c32 = true → ((pantomimelaw19_object_O N 1) = some y33 ∧ (reach_Live_O N (⟨([(⟨8, 0, 0, 0, ([(⟨1, 0, ⟨#[]⟩⟩ : DValue)] : List DValue), ([y8, y9] : List DValue)⟩ : DCell), (⟨11, 0, 0, 0, [], []⟩ : DCell), (⟨11, 0, 0, 0, [], []⟩ : DCell)] : List DCell), []⟩ : DMemory) ([y33] : List DValue)) = some y36 ∧ (pantomimeref19_Same_O N y36 ([1] : List Int)) = some y41 ∧ y41 = b32) := by
    cases c32
    · exact ⟨default, default, default, fun e => by cases e⟩
    · replace hb32 := cond_t hc32 hb32
      obtain ⟨y33, hy33, hb32⟩ := bind_elim hb32
      obtain ⟨y36, hy36, hb32⟩ := bind_elim hb32
      obtain ⟨y41, hy41, hb32⟩ := bind_elim hb32
      exact ⟨y33, y36, y41, fun _ => ⟨hy33, hy36, hy41, Option.some.inj hb32⟩⟩
  have ho32 : c32 = false → b32 = false := fun e => (Option.some.inj (cond_f (hc32.trans e) hb32)).symm
  obtain ⟨b42, hb42, h⟩ := bind_elim h
  obtain ⟨c42, hc42⟩ : ∃ c, b32 = c := ⟨_, rfl⟩
  obtain ⟨y43, y44, y47, y52, hs42⟩ : ∃ (y43 : (DValue)) (y44 : (DValue)) (y47 : ((List Int))) (y52 : (Bool)), c42 = true → ((pantomimelaw19_object_O N 1) = some y43 ∧ (pantomimelaw19_object_O N 3) = some y44 ∧ (reach_Live_O N (⟨([(⟨8, 0, 0, 0, ([(⟨1, 0, ⟨#[]⟩⟩ : DValue)] : List DValue), ([y8, y9] : List DValue)⟩ : DCell), (⟨11, 0, 0, 0, [], []⟩ : DCell), (⟨11, 0, 0, 0, [], []⟩ : DCell)] : List DCell), []⟩ : DMemory) ([y43, y44] : List DValue)) = some y47 ∧ (pantomimeref19_Same_O N y47 ([1, 3, 5] : List Int)) = some y52 ∧ y52 = b42) := by
    cases c42
    · exact ⟨default, default, default, default, fun e => by cases e⟩
    · replace hb42 := cond_t hc42 hb42
      obtain ⟨y43, hy43, hb42⟩ := bind_elim hb42
      obtain ⟨y44, hy44, hb42⟩ := bind_elim hb42
      obtain ⟨y47, hy47, hb42⟩ := bind_elim hb42
      obtain ⟨y52, hy52, hb42⟩ := bind_elim hb42
      exact ⟨y43, y44, y47, y52, fun _ => ⟨hy43, hy44, hy47, hy52, Option.some.inj hb42⟩⟩
  have ho42 : c42 = false → b42 = false := fun e => (Option.some.inj (cond_f (hc42.trans e) hb42)).symm
  obtain ⟨b53, hb53, h⟩ := bind_elim h
  obtain ⟨c53, hc53⟩ : ∃ c, b42 = c := ⟨_, rfl⟩
  obtain ⟨y54, y55, y58, y63, hs53⟩ : ∃ (y54 : (DValue)) (y55 : (DValue)) (y58 : ((List Int))) (y63 : (Bool)), c53 = true → ((pantomimelaw19_object_O N 1) = some y54 ∧ (pantomimelaw19_object_O N 3) = some y55 ∧ (reach_Strong_O N (⟨([(⟨8, 0, 0, 0, ([(⟨1, 0, ⟨#[]⟩⟩ : DValue)] : List DValue), ([y8, y9] : List DValue)⟩ : DCell), (⟨11, 0, 0, 0, [], []⟩ : DCell), (⟨11, 0, 0, 0, [], []⟩ : DCell)] : List DCell), []⟩ : DMemory) ([y54, y55] : List DValue)) = some y58 ∧ (pantomimeref19_Same_O N y58 ([1, 3] : List Int)) = some y63 ∧ y63 = b53) := by
    cases c53
    · exact ⟨default, default, default, default, fun e => by cases e⟩
    · replace hb53 := cond_t hc53 hb53
      obtain ⟨y54, hy54, hb53⟩ := bind_elim hb53
      obtain ⟨y55, hy55, hb53⟩ := bind_elim hb53
      obtain ⟨y58, hy58, hb53⟩ := bind_elim hb53
      obtain ⟨y63, hy63, hb53⟩ := bind_elim hb53
      exact ⟨y54, y55, y58, y63, fun _ => ⟨hy54, hy55, hy58, hy63, Option.some.inj hb53⟩⟩
  have ho53 : c53 = false → b53 = false := fun e => (Option.some.inj (cond_f (hc53.trans e) hb53)).symm
  refine G_sub (t := [(0, .bool false), (1, .pointer (some ⟨B6, 0, none⟩)), (2, .pointer (some ⟨B12, 0, none⟩))]) ?_ subT (cv_refl _)
  refine G_monoX (by kernel_rfl) 40 [] [39] [22, 23, 24, 25, 26, 27, 28, 29, 30, 31, 32, 33, 34, 35, 36, 37, 38, 39, 40, 41, 42, 43, 44, 45, 46, 47, 48, 49, 50, 51, 52, 53, 54, 55, 56, 57, 58, 59, 60, 61] [[], [], [1], [0, 2], [], [3, 4], [5], [6], [6], [6, 8], [6, 7, 9], [6], [6, 10, 11], [6, 12], [13], [14], [14], [14, 16], [14, 15, 17], [14], [14, 18, 19], [14, 20], [21], [22], [22], [22], [22, 24, 25], [22, 23, 26], [22], [22, 27, 28], [22, 29], [30], [31], [31], [31], [31, 33, 34], [31, 32, 35], [31], [31, 36, 37], [31, 38]] [aV (.agg #[.slice A4 n4 c4, .slice A5 n5 c5]),
 aV (.agg #[.int .i64 y13.Kind, .int .i64 y13.N, .string y13.S]),
 aX3 (fun (A15 : Option Addr) (n15 c15 : Nat) => .slice A15 n15 c15) (fun A15 n15 c15 => [ownC rDValue 38 (.slice A15 n15 c15) ([y13] : List DValue)]),
 aX3 (fun (A18 : Option Addr) (n18 c18 : Nat) => .slice A18 n18 c18) (fun A18 n18 c18 => [ownC (rInt .i64) 3 (.slice A18 n18 c18) y16]),
 aX3 (fun (A20 : Option Addr) (n20 c20 : Nat) => .slice A20 n20 c20) (fun A20 n20 c20 => [ownC (rInt .i64) 3 (.slice A20 n20 c20) ([1, 3, 2] : List Int)]),
 aV (.bool y21),
 aV (.bool y21),
 (bif c22 then aV (.agg #[.slice A4 n4 c4, .slice A5 n5 c5]) else aV undef),
 (bif c22 then aV (.agg #[.int .i64 y23.Kind, .int .i64 y23.N, .string y23.S]) else aV undef),
 (bif c22 then aX3 (fun (A25 : Option Addr) (n25 c25 : Nat) => .slice A25 n25 c25) (fun A25 n25 c25 => [ownC rDValue 38 (.slice A25 n25 c25) ([y23] : List DValue)]) else aV undef),
 (bif c22 then aX3 (fun (A28 : Option Addr) (n28 c28 : Nat) => .slice A28 n28 c28) (fun A28 n28 c28 => [ownC (rInt .i64) 3 (.slice A28 n28 c28) y26]) else aV undef),
 (bif c22 then aX3 (fun (A30 : Option Addr) (n30 c30 : Nat) => .slice A30 n30 c30) (fun A30 n30 c30 => [ownC (rInt .i64) 3 (.slice A30 n30 c30) ([1, 2, 3] : List Int)]) else aV undef),
 (bif c22 then aV (.bool y31) else aV undef),
 aV (.bool b22),
 aV (.bool b22),
 (bif c32 then aV (.agg #[.slice A11 n11 c11, .slice none 0 0]) else aV undef),
 (bif c32 then aV (.agg #[.int .i64 y33.Kind, .int .i64 y33.N, .string y33.S]) else aV undef),
 (bif c32 then aX3 (fun (A35 : Option Addr) (n35 c35 : Nat) => .slice A35 n35 c35) (fun A35 n35 c35 => [ownC rDValue 38 (.slice A35 n35 c35) ([y33] : List DValue)]) else aV undef),
 (bif c32 then aX3 (fun (A38 : Option Addr) (n38 c38 : Nat) => .slice A38 n38 c38) (fun A38 n38 c38 => [ownC (rInt .i64) 3 (.slice A38 n38 c38) y36]) else aV undef),
 (bif c32 then aX3 (fun (A40 : Option Addr) (n40 c40 : Nat) => .slice A40 n40 c40) (fun A40 n40 c40 => [ownC (rInt .i64) 3 (.slice A40 n40 c40) ([1] : List Int)]) else aV undef),
 (bif c32 then aV (.bool y41) else aV undef),
 aV (.bool b32),
 aV (.bool b32),
 (bif c42 then aV (.agg #[.slice A11 n11 c11, .slice none 0 0]) else aV undef),
 (bif c42 then aV (.agg #[.int .i64 y43.Kind, .int .i64 y43.N, .string y43.S]) else aV undef),
 (bif c42 then aV (.agg #[.int .i64 y44.Kind, .int .i64 y44.N, .string y44.S]) else aV undef),
 (bif c42 then aX3 (fun (A46 : Option Addr) (n46 c46 : Nat) => .slice A46 n46 c46) (fun A46 n46 c46 => [ownC rDValue 38 (.slice A46 n46 c46) ([y43, y44] : List DValue)]) else aV undef),
 (bif c42 then aX3 (fun (A49 : Option Addr) (n49 c49 : Nat) => .slice A49 n49 c49) (fun A49 n49 c49 => [ownC (rInt .i64) 3 (.slice A49 n49 c49) y47]) else aV undef),
 (bif c42 then aX3 (fun (A51 : Option Addr) (n51 c51 : Nat) => .slice A51 n51 c51) (fun A51 n51 c51 => [ownC (rInt .i64) 3 (.slice A51 n51 c51) ([1, 3, 5] : List Int)]) else aV undef),
 (bif c42 then aV (.bool y52) else aV undef),
 aV (.bool b42),
 aV (.bool b42),
 (bif c53 then aV (.agg #[.slice A11 n11 c11, .slice none 0 0]) else aV undef),
 (bif c53 then aV (.agg #[.int .i64 y54.Kind, .int .i64 y54.N, .string y54.S]) else aV undef),
 (bif c53 then aV (.agg #[.int .i64 y55.Kind, .int .i64 y55.N, .string y55.S]) else aV undef),
 (bif c53 then aX3 (fun (A57 : Option Addr) (n57 c57 : Nat) => .slice A57 n57 c57) (fun A57 n57 c57 => [ownC rDValue 38 (.slice A57 n57 c57) ([y54, y55] : List DValue)]) else aV undef),
 (bif c53 then aX3 (fun (A60 : Option Addr) (n60 c60 : Nat) => .slice A60 n60 c60) (fun A60 n60 c60 => [ownC (rInt .i64) 3 (.slice A60 n60 c60) y58]) else aV undef),
 (bif c53 then aX3 (fun (A62 : Option Addr) (n62 c62 : Nat) => .slice A62 n62 c62) (fun A62 n62 c62 => [ownC (rInt .i64) 3 (.slice A62 n62 c62) ([1, 3] : List Int)]) else aV undef),
 (bif c53 then aV (.bool y63) else aV undef),
 aV (.bool b53)] [] (cv_refl _) (qB_nil) (by kernel_rfl) rfl rfl ?_ ?_ ?_
  · exact qs_nil
  · refine steps_cons rfl ?_ ?_
    · cases c53
      · exact X_ev (ev_pick_f' hc53 rfl rfl) rfl (cvpV (by rw [ho53 rfl]) (cv_refl _))
      · obtain ⟨hy54, hy55, hy58, hy63, hv53⟩ := hs53 rfl
        exact X_ev (ev_pick_t' hc53 rfl rfl) rfl (cvpV (by rw [hv53]) (cv_refl _))
    refine steps_cons rfl ?_ ?_
    · cases c53
      · exact X_no (g_tf hc53 rfl) (cvpV rfl (cv_refl _))
      · obtain ⟨hy54, hy55, hy58, hy63, hv53⟩ := hs53 rfl
        intro A60 n60 c60 A62 n62 c62
        refine X_op (op_callR (pantomimeref19_Same_ok hy63) call20 rfl (mem_cons (lent_own (i := 0) rfl) (mem_cons (lent_own (i := 1) rfl) mem_nil)) pantomimeref19_Same_free) (g_tt hc53 rfl) ?_
        rintro _ _ ⟨_, ⟨rfl, rfl⟩, rfl⟩
        exact cvpV rfl (cv_refl _)
    refine steps_cons rfl ?_ ?_
    · cases c53
      · exact X_no (g_tf hc53 rfl) (cvpV rfl (cv_refl _))
      · obtain ⟨hy54, hy55, hy58, hy63, hv53⟩ := hs53 rfl
        refine X_op (op_bslice (R := (rInt .i64)) (vss := [[.int .i64 1], [.int .i64 3]]) (xs := [1, 3]) rfl (bsl_35_2 _ _) rfl rfl (fun _ _ hr => .cons rfl (.cons rfl All2.nil))) (g_tt hc53 rfl) ?_
        rintro _ _ ⟨A61, n61, c61, rfl, rfl⟩
        exact cvp3 A61 n61 c61 (cv_refl _)
    refine steps_cons rfl ?_ ?_
    · cases c53
      · exact X_no (g_tf hc53 rfl) (cvpV rfl (cv_refl _))
      · obtain ⟨hy54, hy55, hy58, hy63, hv53⟩ := hs53 rfl
        intro A57 n57 c57
        refine X_op (op_callR (reach_Strong_ok hy58) call21 rfl (mem_cons (lent_own (i := 2) rfl) (mem_cons (lent_nil) (mem_cons (lent_own (i := 0) rfl) mem_nil))) reach_Strong_free) (g_tt hc53 rfl) ?_
        rintro _ _ ⟨_, ⟨A59, n59, c59, rfl, rfl⟩, rfl⟩
        exact cvp3 A59 n59 c59 (cv_refl _)
    refine steps_cons rfl ?_ ?_
    · cases c53
      · exact X_no (g_tf hc53 rfl) (cvpV rfl (cv_refl _))
      · obtain ⟨hy54, hy55, hy58, hy63, hv53⟩ := hs53 rfl
        refine X_op (op_bslice (R := rDValue) (vss := [[.int .i64 y54.Kind, .int .i64 y54.N, .string y54.S], [.int .i64 y55.Kind, .int .i64 y55.N, .string y55.S]]) (xs := [y54, y55]) rfl (bsl_25_2 _ _ _ _ _ _) rfl rfl (fun _ _ hr => .cons rfl (.cons rfl All2.nil))) (g_tt hc53 rfl) ?_
        rintro _ _ ⟨A56, n56, c56, rfl, rfl⟩
        exact cvp3 A56 n56 c56 (cv_refl _)
    refine steps_cons rfl ?_ ?_
    · cases c53
      · exact X_no (g_tf hc53 rfl) (cvpV rfl (cv_refl _))
      · obtain ⟨hy54, hy55, hy58, hy63, hv53⟩ := hs53 rfl
        refine X_op (op_callR (pantomimelaw19_object_ok hy55) call47 rfl (mem_nil) pantomimelaw19_object_free) (g_tt hc53 rfl) ?_
        rintro _ _ ⟨_, ⟨rfl, rfl⟩, rfl⟩
        exact cvpV rfl (cv_refl _)
    refine steps_cons rfl ?_ ?_
    · cases c53
      · exact X_no (g_tf hc53 rfl) (cvpV rfl (cv_refl _))
      · obtain ⟨hy54, hy55, hy58, hy63, hv53⟩ := hs53 rfl
        refine X_op (op_callR (pantomimelaw19_object_ok hy54) call47 rfl (mem_nil) pantomimelaw19_object_free) (g_tt hc53 rfl) ?_
        rintro _ _ ⟨_, ⟨rfl, rfl⟩, rfl⟩
        exact cvpV rfl (cv_refl _)
    refine steps_cons rfl ?_ ?_
    · cases c53
      · exact X_no (g_tf hc53 rfl) (cvpV rfl (cv_refl _))
      · obtain ⟨hy54, hy55, hy58, hy63, hv53⟩ := hs53 rfl
        exact X_rd (rd_boxS (us := [.slice A11 n11 c11, .slice none 0 0]) 0 rfl rfl agg24 rfl) (g_tt hc53 rfl) (cvpV rfl (cv_refl _))
    refine steps_cons rfl ?_ ?_
    · exact X_ev (ev_move rfl) rfl (cvpV rfl (cv_refl _))
    refine steps_cons rfl ?_ ?_
    · cases c42
      · exact X_ev (ev_pick_f' hc42 rfl rfl) rfl (cvpV (by rw [ho42 rfl]) (cv_refl _))
      · obtain ⟨hy43, hy44, hy47, hy52, hv42⟩ := hs42 rfl
        exact X_ev (ev_pick_t' hc42 rfl rfl) rfl (cvpV (by rw [hv42]) (cv_refl _))
    refine steps_cons rfl ?_ ?_
    · cases c42
      · exact X_no (g_tf hc42 rfl) (cvpV rfl (cv_refl _))
      · obtain ⟨hy43, hy44, hy47, hy52, hv42⟩ := hs42 rfl
        intro A49 n49 c49 A51 n51 c51
        refine X_op (op_callR (pantomimeref19_Same_ok hy52) call20 rfl (mem_cons (lent_own (i := 0) rfl) (mem_cons (lent_own (i := 1) rfl) mem_nil)) pantomimeref19_Same_free) (g_tt hc42 rfl) ?_
        rintro _ _ ⟨_, ⟨rfl, rfl⟩, rfl⟩
        exact cvpV rfl (cv_refl _)
    refine steps_cons rfl ?_ ?_
    · cases c42
      · exact X_no (g_tf hc42 rfl) (cvpV rfl (cv_refl _))
      · obtain ⟨hy43, hy44, hy47, hy52, hv42⟩ := hs42 rfl
        refine X_op (op_bslice (R := (rInt .i64)) (vss := [[.int .i64 1], [.int .i64 3], [.int .i64 5]]) (xs := [1, 3, 5]) rfl (bsl_35_3 _ _ _) rfl rfl (fun _ _ hr => .cons rfl (.cons rfl (.cons rfl All2.nil)))) (g_tt hc42 rfl) ?_
        rintro _ _ ⟨A50, n50, c50, rfl, rfl⟩
        exact cvp3 A50 n50 c50 (cv_refl _)
    refine steps_cons rfl ?_ ?_
    · cases c42
      · exact X_no (g_tf hc42 rfl) (cvpV rfl (cv_refl _))
      · obtain ⟨hy43, hy44, hy47, hy52, hv42⟩ := hs42 rfl
        intro A46 n46 c46
        refine X_op (op_callR (reach_Live_ok hy47) call23 rfl (mem_cons (lent_own (i := 2) rfl) (mem_cons (lent_nil) (mem_cons (lent_own (i := 0) rfl) mem_nil))) reach_Live_free) (g_tt hc42 rfl) ?_
        rintro _ _ ⟨_, ⟨A48, n48, c48, rfl, rfl⟩, rfl⟩
        exact cvp3 A48 n48 c48 (cv_refl _)
    refine steps_cons rfl ?_ ?_
    · cases c42
      · exact X_no (g_tf hc42 rfl) (cvpV rfl (cv_refl _))
      · obtain ⟨hy43, hy44, hy47, hy52, hv42⟩ := hs42 rfl
        refine X_op (op_bslice (R := rDValue) (vss := [[.int .i64 y43.Kind, .int .i64 y43.N, .string y43.S], [.int .i64 y44.Kind, .int .i64 y44.N, .string y44.S]]) (xs := [y43, y44]) rfl (bsl_25_2 _ _ _ _ _ _) rfl rfl (fun _ _ hr => .cons rfl (.cons rfl All2.nil))) (g_tt hc42 rfl) ?_
        rintro _ _ ⟨A45, n45, c45, rfl, rfl⟩
        exact cvp3 A45 n45 c45 (cv_refl _)
    refine steps_cons rfl ?_ ?_
    · cases c42
      · exact X_no (g_tf hc42 rfl) (cvpV rfl (cv_refl _))
      · obtain ⟨hy43, hy44, hy47, hy52, hv42⟩ := hs42 rfl
        refine X_op (op_callR (pantomimelaw19_object_ok hy44) call47 rfl (mem_nil) pantomimelaw19_object_free) (g_tt hc42 rfl) ?_
        rintro _ _ ⟨_, ⟨rfl, rfl⟩, rfl⟩
        exact cvpV rfl (cv_refl _)
    refine steps_cons rfl ?_ ?_
    · cases c42
      · exact X_no (g_tf hc42 rfl) (cvpV rfl (cv_refl _))
      · obtain ⟨hy43, hy44, hy47, hy52, hv42⟩ := hs42 rfl
        refine X_op (op_callR (pantomimelaw19_object_ok hy43) call47 rfl (mem_nil) pantomimelaw19_object_free) (g_tt hc42 rfl) ?_
        rintro _ _ ⟨_, ⟨rfl, rfl⟩, rfl⟩
        exact cvpV rfl (cv_refl _)
    refine steps_cons rfl ?_ ?_
    · cases c42
      · exact X_no (g_tf hc42 rfl) (cvpV rfl (cv_refl _))
      · obtain ⟨hy43, hy44, hy47, hy52, hv42⟩ := hs42 rfl
        exact X_rd (rd_boxS (us := [.slice A11 n11 c11, .slice none 0 0]) 0 rfl rfl agg24 rfl) (g_tt hc42 rfl) (cvpV rfl (cv_refl _))
    refine steps_cons rfl ?_ ?_
    · exact X_ev (ev_move rfl) rfl (cvpV rfl (cv_refl _))
    refine steps_cons rfl ?_ ?_
    · cases c32
      · exact X_ev (ev_pick_f' hc32 rfl rfl) rfl (cvpV (by rw [ho32 rfl]) (cv_refl _))
      · obtain ⟨hy33, hy36, hy41, hv32⟩ := hs32 rfl
        exact X_ev (ev_pick_t' hc32 rfl rfl) rfl (cvpV (by rw [hv32]) (cv_refl _))
    refine steps_cons rfl ?_ ?_
    · cases c32
      · exact X_no (g_tf hc32 rfl) (cvpV rfl (cv_refl _))
      · obtain ⟨hy33, hy36, hy41, hv32⟩ := hs32 rfl
        intro A38 n38 c38 A40 n40 c40
        refine X_op (op_callR (pantomimeref19_Same_ok hy41) call20 rfl (mem_cons (lent_own (i := 0) rfl) (mem_cons (lent_own (i := 1) rfl) mem_nil)) pantomimeref19_Same_free) (g_tt hc32 rfl) ?_
        rintro _ _ ⟨_, ⟨rfl, rfl⟩, rfl⟩
        exact cvpV rfl (cv_refl _)
    refine steps_cons rfl ?_ ?_
    · cases c32
      · exact X_no (g_tf hc32 rfl) (cvpV rfl (cv_refl _))
      · obtain ⟨hy33, hy36, hy41, hv32⟩ := hs32 rfl
        refine X_op (op_bslice (R := (rInt .i64)) (vss := [[.int .i64 1]]) (xs := [1]) rfl (bsl_35_1 _) rfl rfl (fun _ _ hr => .cons rfl All2.nil)) (g_tt hc32 rfl) ?_
        rintro _ _ ⟨A39, n39, c39, rfl, rfl⟩
        exact cvp3 A39 n39 c39 (cv_refl _)
    refine steps_cons rfl ?_ ?_
    · cases c32
      · exact X_no (g_tf hc32 rfl) (cvpV rfl (cv_refl _))
      · obtain ⟨hy33, hy36, hy41, hv32⟩ := hs32 rfl
        intro A35 n35 c35
        refine X_op (op_callR (reach_Live_ok hy36) call23 rfl (mem_cons (lent_own (i := 2) rfl) (mem_cons (lent_nil) (mem_cons (lent_own (i := 0) rfl) mem_nil))) reach_Live_free) (g_tt hc32 rfl) ?_
        rintro _ _ ⟨_, ⟨A37, n37, c37, rfl, rfl⟩, rfl⟩
        exact cvp3 A37 n37 c37 (cv_refl _)
    refine steps_cons rfl ?_ ?_
    · cases c32
      · exact X_no (g_tf hc32 rfl) (cvpV rfl (cv_refl _))
      · obtain ⟨hy33, hy36, hy41, hv32⟩ := hs32 rfl
        refine X_op (op_bslice (R := rDValue) (vss := [[.int .i64 y33.Kind, .int .i64 y33.N, .string y33.S]]) (xs := [y33]) rfl (bsl_25_1 _ _ _) rfl rfl (fun _ _ hr => .cons rfl All2.nil)) (g_tt hc32 rfl) ?_
        rintro _ _ ⟨A34, n34, c34, rfl, rfl⟩
        exact cvp3 A34 n34 c34 (cv_refl _)
    refine steps_cons rfl ?_ ?_
    · cases c32
      · exact X_no (g_tf hc32 rfl) (cvpV rfl (cv_refl _))
      · obtain ⟨hy33, hy36, hy41, hv32⟩ := hs32 rfl
        refine X_op (op_callR (pantomimelaw19_object_ok hy33) call47 rfl (mem_nil) pantomimelaw19_object_free) (g_tt hc32 rfl) ?_
        rintro _ _ ⟨_, ⟨rfl, rfl⟩, rfl⟩
        exact cvpV rfl (cv_refl _)
    refine steps_cons rfl ?_ ?_
    · cases c32
      · exact X_no (g_tf hc32 rfl) (cvpV rfl (cv_refl _))
      · obtain ⟨hy33, hy36, hy41, hv32⟩ := hs32 rfl
        exact X_rd (rd_boxS (us := [.slice A11 n11 c11, .slice none 0 0]) 0 rfl rfl agg24 rfl) (g_tt hc32 rfl) (cvpV rfl (cv_refl _))
    refine steps_cons rfl ?_ ?_
    · exact X_ev (ev_move rfl) rfl (cvpV rfl (cv_refl _))
    refine steps_cons rfl ?_ ?_
    · cases c22
      · exact X_ev (ev_pick_f' hc22 rfl rfl) rfl (cvpV (by rw [ho22 rfl]) (cv_refl _))
      · obtain ⟨hy23, hy26, hy31, hv22⟩ := hs22 rfl
        exact X_ev (ev_pick_t' hc22 rfl rfl) rfl (cvpV (by rw [hv22]) (cv_refl _))
    refine steps_cons rfl ?_ ?_
    · cases c22
      · exact X_no (g_tf hc22 rfl) (cvpV rfl (cv_refl _))
      · obtain ⟨hy23, hy26, hy31, hv22⟩ := hs22 rfl
        intro A28 n28 c28 A30 n30 c30
        refine X_op (op_callR (pantomimeref19_Same_ok hy31) call20 rfl (mem_cons (lent_own (i := 0) rfl) (mem_cons (lent_own (i := 1) rfl) mem_nil)) pantomimeref19_Same_free) (g_tt hc22 rfl) ?_
        rintro _ _ ⟨_, ⟨rfl, rfl⟩, rfl⟩
        exact cvpV rfl (cv_refl _)
    refine steps_cons rfl ?_ ?_
    · cases c22
      · exact X_no (g_tf hc22 rfl) (cvpV rfl (cv_refl _))
      · obtain ⟨hy23, hy26, hy31, hv22⟩ := hs22 rfl
        refine X_op (op_bslice (R := (rInt .i64)) (vss := [[.int .i64 1], [.int .i64 2], [.int .i64 3]]) (xs := [1, 2, 3]) rfl (bsl_35_3 _ _ _) rfl rfl (fun _ _ hr => .cons rfl (.cons rfl (.cons rfl All2.nil)))) (g_tt hc22 rfl) ?_
        rintro _ _ ⟨A29, n29, c29, rfl, rfl⟩
        exact cvp3 A29 n29 c29 (cv_refl _)
    refine steps_cons rfl ?_ ?_
    · cases c22
      · exact X_no (g_tf hc22 rfl) (cvpV rfl (cv_refl _))
      · obtain ⟨hy23, hy26, hy31, hv22⟩ := hs22 rfl
        intro A25 n25 c25
        refine X_op (op_callR (reach_Live_ok hy26) call23 rfl (mem_cons (lent_own (i := 7) rfl) (mem_cons (lent_own (i := 6) rfl) (mem_cons (lent_own (i := 0) rfl) mem_nil))) reach_Live_free) (g_tt hc22 rfl) ?_
        rintro _ _ ⟨_, ⟨A27, n27, c27, rfl, rfl⟩, rfl⟩
        exact cvp3 A27 n27 c27 (cv_refl _)
    refine steps_cons rfl ?_ ?_
    · cases c22
      · exact X_no (g_tf hc22 rfl) (cvpV rfl (cv_refl _))
      · obtain ⟨hy23, hy26, hy31, hv22⟩ := hs22 rfl
        refine X_op (op_bslice (R := rDValue) (vss := [[.int .i64 y23.Kind, .int .i64 y23.N, .string y23.S]]) (xs := [y23]) rfl (bsl_25_1 _ _ _) rfl rfl (fun _ _ hr => .cons rfl All2.nil)) (g_tt hc22 rfl) ?_
        rintro _ _ ⟨A24, n24, c24, rfl, rfl⟩
        exact cvp3 A24 n24 c24 (cv_refl _)
    refine steps_cons rfl ?_ ?_
    · cases c22
      · exact X_no (g_tf hc22 rfl) (cvpV rfl (cv_refl _))
      · obtain ⟨hy23, hy26, hy31, hv22⟩ := hs22 rfl
        refine X_op (op_callR (pantomimelaw19_object_ok hy23) call47 rfl (mem_nil) pantomimelaw19_object_free) (g_tt hc22 rfl) ?_
        rintro _ _ ⟨_, ⟨rfl, rfl⟩, rfl⟩
        exact cvpV rfl (cv_refl _)
    refine steps_cons rfl ?_ ?_
    · cases c22
      · exact X_no (g_tf hc22 rfl) (cvpV rfl (cv_refl _))
      · obtain ⟨hy23, hy26, hy31, hv22⟩ := hs22 rfl
        exact X_rd (rd_boxS (us := [.slice A4 n4 c4, .slice A5 n5 c5]) 4 rfl rfl agg24 rfl) (g_tt hc22 rfl) (cvpV rfl (cv_refl _))
    refine steps_cons rfl ?_ ?_
    · exact X_ev (ev_move rfl) rfl (cvpV rfl (cv_refl _))
    refine steps_cons rfl ?_ ?_
    · intro A18 n18 c18 A20 n20 c20
      refine X_op (op_callR (pantomimeref19_Same_ok hy21) call20 rfl (mem_cons (lent_own (i := 0) rfl) (mem_cons (lent_own (i := 1) rfl) mem_nil)) pantomimeref19_Same_free) rfl ?_
      rintro _ _ ⟨_, ⟨rfl, rfl⟩, rfl⟩
      exact cvpV rfl (cv_refl _)
    refine steps_cons rfl ?_ ?_
    · refine X_op (op_bslice (R := (rInt .i64)) (vss := [[.int .i64 1], [.int .i64 3], [.int .i64 2]]) (xs := [1, 3, 2]) rfl (bsl_35_3 _ _ _) rfl rfl (fun _ _ hr => .cons rfl (.cons rfl (.cons rfl All2.nil)))) rfl ?_
      rintro _ _ ⟨A19, n19, c19, rfl, rfl⟩
      exact cvp3 A19 n19 c19 (cv_refl _)
    refine steps_cons rfl ?_ ?_
    · intro A15 n15 c15
      refine X_op (op_callR (reach_Order_ok hy16) call25 rfl (mem_cons (lent_own (i := 7) rfl) (mem_cons (lent_own (i := 6) rfl) (mem_cons (lent_own (i := 0) rfl) mem_nil))) reach_Order_free) rfl ?_
      rintro _ _ ⟨_, ⟨A17, n17, c17, rfl, rfl⟩, rfl⟩
      exact cvp3 A17 n17 c17 (cv_refl _)
    refine steps_cons rfl ?_ ?_
    · refine X_op (op_bslice (R := rDValue) (vss := [[.int .i64 y13.Kind, .int .i64 y13.N, .string y13.S]]) (xs := [y13]) rfl (bsl_25_1 _ _ _) rfl rfl (fun _ _ hr => .cons rfl All2.nil)) rfl ?_
      rintro _ _ ⟨A14, n14, c14, rfl, rfl⟩
      exact cvp3 A14 n14 c14 (cv_refl _)
    refine steps_cons rfl ?_ ?_
    · refine X_op (op_callR (pantomimelaw19_object_ok hy13) call47 rfl (mem_nil) pantomimelaw19_object_free) rfl ?_
      rintro _ _ ⟨_, ⟨rfl, rfl⟩, rfl⟩
      exact cvpV rfl (cv_refl _)
    refine steps_cons rfl ?_ ?_
    · exact X_rd (rd_boxS (us := [.slice A4 n4 c4, .slice A5 n5 c5]) 4 rfl rfl agg24 rfl) rfl (cvpV rfl (cv_refl _))
    exact steps_nil
  · refine N_sub (t := [(61, .bool b53), (0, .bool false), (1, .pointer (some ⟨B6, 0, none⟩)), (2, .pointer (some ⟨B12, 0, none⟩))]) (L' := [boxC B12 24 [.slice A11 n11 c11, .slice none 0 0], ownC rDCell 32 (.slice A11 n11 c11) ([(⟨8, 0, 0, 0, ([(⟨1, 0, ⟨#[]⟩⟩ : DValue)] : List DValue), ([y8, y9] : List DValue)⟩ : DCell), (⟨11, 0, 0, 0, [], []⟩ : DCell), (⟨11, 0, 0, 0, [], []⟩ : DCell)] : List DCell), slC rDValue (.slice A10 n10 c10) ([y8, y9] : List DValue), slC rDValue (.slice A7 n7 c7) ([(⟨1, 0, ⟨#[]⟩⟩ : DValue)] : List DValue), boxC B6 24 [.slice A4 n4 c4, .slice A5 n5 c5], ownC rDCell 32 (.slice A5 n5 c5) ([(⟨11, 0, 0, 0, [], []⟩ : DCell)] : List DCell), ownC rDCell 32 (.slice A4 n4 c4) ([(⟨11, 0, 0, 0, [], ([y1, y2] : List DValue)⟩ : DCell), (⟨11, 0, 0, 0, [], []⟩ : DCell)] : List DCell), slC rDValue (.slice A3 n3 c3) ([y1, y2] : List DValue)]) ?_ subT (cv_refl _)
    refine N_ev 40 rfl (by kernel_rfl) (ev_assign rfl) rfl rfl rfl ?_
    refine N_done (by kernel_rfl) ?_
    refine run ?_
    obtain rfl := Option.some.inj h
    exact endG1 rfl rfl (cv_sel [] 8 rfl rfl) ⟨rfl, rfl⟩
theorem pantomimelaw19_goes_free {r : Bool} : ∀ v post, ((fun (u : Value) (post : List Chunk) => u = .bool r ∧ post = [])) v post → ∀ c ∈ post, Free c := by
  rintro _ _ ⟨rfl, rfl⟩; exact mem_nil
def pantomimeref19_copied_j3 (N : Nat) (p4 : (List DCell)) : Option (List DCell) :=
  some p4
def pantomimeref19_copied_l5 (N : Nat) (a0 : (List DCell)) : Nat → (List DCell) → Int → Option (List DCell)
  | 0, _, _ => none
  | m5 + 1, p6, p7 => bif decide (p7 < (a0.length : Int)) then ((getE a0 p7).bind fun x9 => req (fitsL (([] : List DValue).length + x9.Slots.length)) (req (fitsL (([] : List DValue).length + x9.More.length)) (req (fitsL (p6.length + ([(⟨x9.Kind, x9.Shape, x9.Flags, x9.Age, ([] : List DValue) ++ x9.Slots, ([] : List DValue) ++ x9.More⟩ : DCell)] : List DCell).length)) (req (in64 (p7 + 1)) ((pantomimeref19_copied_l5 N a0 m5) (p6 ++ ([(⟨x9.Kind, x9.Shape, x9.Flags, x9.Age, ([] : List DValue) ++ x9.Slots, ([] : List DValue) ++ x9.More⟩ : DCell)] : List DCell)) (p7 + 1)))))) else (pantomimeref19_copied_j3 N p6)
theorem pantomimeref19_copied_l5_s {N m5 : Nat} {a0 : (List DCell)} {p6 : (List DCell)} {p7 : Int} : pantomimeref19_copied_l5 N a0 (m5 + 1) p6 p7 = bif decide (p7 < (a0.length : Int)) then ((getE a0 p7).bind fun x9 => req (fitsL (([] : List DValue).length + x9.Slots.length)) (req (fitsL (([] : List DValue).length + x9.More.length)) (req (fitsL (p6.length + ([(⟨x9.Kind, x9.Shape, x9.Flags, x9.Age, ([] : List DValue) ++ x9.Slots, ([] : List DValue) ++ x9.More⟩ : DCell)] : List DCell).length)) (req (in64 (p7 + 1)) ((pantomimeref19_copied_l5 N a0 m5) (p6 ++ ([(⟨x9.Kind, x9.Shape, x9.Flags, x9.Age, ([] : List DValue) ++ x9.Slots, ([] : List DValue) ++ x9.More⟩ : DCell)] : List DCell)) (p7 + 1)))))) else (pantomimeref19_copied_j3 N p6) := rfl
def pantomimeref19_copied_O (N : Nat) (a0 : (List DCell)) : Option (List DCell) :=
  pantomimeref19_copied_l5 N a0 N ([] : List DCell) 0
theorem pantomimeref19_copied_ok {N : Nat} {a0 : (List DCell)} {r : (List DCell)} (h : pantomimeref19_copied_O N a0 = some r) {A1 : Option Addr} {n1 c1 : Nat} : Okc Tryz.prog 48 [.slice A1 n1 c1] ([slC rDCell (.slice A1 n1 c1) a0]) (fun (u : Value) (post : List Chunk) => ∃ A0 n0 c0, u = .slice A0 n0 c0 ∧ post = [ownC rDCell 32 (.slice A0 n0 c0) r]) := by
  refine ok_E Tryz.func48 rfl rfl ?_
  simp only [envOf]
  refine run ?_
  refine G_opd (op_bslice (R := rDCell) (vss := []) (xs := []) rfl (bsl_22_0) rfl rfl (fun _ _ hr => All2.nil)) rfl rfl rfl ?_
  rintro _ _ ⟨A2, n2, c2, rfl, rfl⟩
  refine run ?_
  refine G_joinF (fun s L => ∃ (p4 : (List DCell)) (A4 : Option Addr) (n4 c4 : Nat), pantomimeref19_copied_j3 N p4 = some r ∧ s = [(2, .slice none 0 0), (3, .slice A4 n4 c4)] ∧ L = [ownC rDCell 32 (.slice A4 n4 c4) p4]) ?_ ?_
  · refine run ?_
    refine G_loopF (fun m s L => ∃ (p6 : (List DCell)) (p7 : Int) (A6 : Option Addr) (n6 c6 : Nat), pantomimeref19_copied_l5 N a0 m p6 p7 = some r ∧ s = [(0, .slice A1 n1 c1), (2, .slice none 0 0), (3, .slice A6 n6 c6), (4, .int .i64 p7)] ∧ L = [slC rDCell (.slice A1 n1 c1) a0, ownC rDCell 32 (.slice A6 n6 c6) p6]) N _ _ ⟨([] : List DCell), 0, A2, n2, c2, h, rfl, rfl⟩ (sub_cons rfl (sub_cons rfl (sub_cons rfl (sub_cons rfl sub_nil)))) (cv_sel [1, 0] 2 rfl rfl) ?_
    rintro (_ | m5) _ _ ⟨p6, p7, A6, n6, c6, h, rfl, rfl⟩
    · exact none_some h
    rw [pantomimeref19_copied_l5_s] at h
    refine G_seq ?_
    refine run ?_
    refine G_rd (rd_len 0 rfl els_sl rfl Tryz.underlying22) rfl rfl rfl ?_
    refine run ?_
    refine G_cond rfl (fun g8 => ?_) (fun g8 => ?_)
    · replace h := cond_t g8 h
      refine run ?_
      refine G_seq ?_
      refine run ?_
      obtain ⟨x9, hx9, h⟩ := bind_elim h
      obtain ⟨lx9, ux9, hx9⟩ := getE_elim hx9
      refine G_rd (rd_idx 0 rfl els_sl rfl rfl Tryz.underlying22 size32 lx9 ux9) rfl rfl rfl ?_
      refine G_row 0 rfl hx9 (open_DCell x9) ?_
      rintro _ _ ⟨A10, n10, c10, A11, n11, c11, rfl, rfl⟩
      refine G_rd (rd_rowS (us := [.int .i64 x9.Kind, .int .i64 x9.Shape, .int .i64 x9.Flags, .int .i64 x9.Age, .slice A10 n10 c10, .slice A11 n11 c11]) 0 rfl rfl agg32 rfl) rfl rfl rfl ?_
      refine G_opd (op_alloc zero32 rfl) rfl rfl rfl ?_
      rintro _ _ ⟨B13, rfl, rfl⟩
      refine G_opn (op_store (us := [.int .i64 x9.Kind, .int .i64 x9.Shape, .int .i64 x9.Flags, .int .i64 x9.Age, .slice A10 n10 c10, .slice A11 n11 c11]) (cs' := [.int .i64 x9.Kind, .int .i64 x9.Shape, .int .i64 x9.Flags, .int .i64 x9.Age, .slice A10 n10 c10, .slice A11 n11 c11]) 0 rfl rfl rfl rfl size32 rfl rfl rfl) rfl rfl ?_
      rintro _ _ rfl
      refine G_norm ([boxC B13 32 [.int .i64 x9.Kind, .int .i64 x9.Shape, .int .i64 x9.Flags, .int .i64 x9.Age, .slice A10 n10 c10, .slice A11 n11 c11], rowC (elemQ (.slice A1 n1 c1) p7.toNat 6 0) [.int .i64 x9.Kind, .int .i64 x9.Shape, .int .i64 x9.Flags, .int .i64 x9.Age, .slice A10 n10 c10, .slice A11 n11 c11], slC rDValue (.slice A10 n10 c10) x9.Slots, slC rDValue (.slice A11 n11 c11) x9.More, slC rDCell (.slice A1 n1 c1) a0, ownC rDCell 32 (.slice A6 n6 c6) p6]) rfl ?_
      refine run ?_
      refine G_opd (op_bslice (R := rDValue) (vss := []) (xs := []) rfl (bsl_25_0) rfl rfl (fun _ _ hr => All2.nil)) rfl rfl rfl ?_
      rintro _ _ ⟨A14, n14, c14, rfl, rfl⟩
      refine run ?_
      obtain ⟨q15, h⟩ := req_elim h
      refine G_opd (op_append 0 3 rfl rfl els_sl rfl rfl Tryz.underlying25 zb38 rfl rfl q15) rfl rfl rfl ?_
      rintro _ _ ⟨A16, n16, c16, rfl, rfl⟩
      refine G_norm ([ownC rDValue 38 (.slice A16 n16 c16) (([] : List DValue) ++ x9.Slots), boxC B13 32 [.int .i64 x9.Kind, .int .i64 x9.Shape, .int .i64 x9.Flags, .int .i64 x9.Age, .slice A10 n10 c10, .slice A11 n11 c11], rowC (elemQ (.slice A1 n1 c1) p7.toNat 6 0) [.int .i64 x9.Kind, .int .i64 x9.Shape, .int .i64 x9.Flags, .int .i64 x9.Age, .slice A10 n10 c10, .slice A11 n11 c11], slC rDValue (.slice A10 n10 c10) x9.Slots, slC rDValue (.slice A11 n11 c11) x9.More, slC rDCell (.slice A1 n1 c1) a0, ownC rDCell 32 (.slice A6 n6 c6) p6]) rfl ?_
      refine run ?_
      refine G_opn (op_store (us := [.slice A16 n16 c16]) (cs' := [.int .i64 x9.Kind, .int .i64 x9.Shape, .int .i64 x9.Flags, .int .i64 x9.Age, .slice A16 n16 c16, .slice A11 n11 c11]) 1 rfl rfl rfl rfl size25 rfl rfl rfl) rfl rfl ?_
      rintro _ _ rfl
      refine G_norm ([ownC rDValue 38 (.slice A16 n16 c16) (([] : List DValue) ++ x9.Slots), boxC B13 32 [.int .i64 x9.Kind, .int .i64 x9.Shape, .int .i64 x9.Flags, .int .i64 x9.Age, .slice A16 n16 c16, .slice A11 n11 c11], rowC (elemQ (.slice A1 n1 c1) p7.toNat 6 0) [.int .i64 x9.Kind, .int .i64 x9.Shape, .int .i64 x9.Flags, .int .i64 x9.Age, .slice A10 n10 c10, .slice A11 n11 c11], slC rDValue (.slice A10 n10 c10) x9.Slots, slC rDValue (.slice A11 n11 c11) x9.More, slC rDCell (.slice A1 n1 c1) a0, ownC rDCell 32 (.slice A6 n6 c6) p6]) rfl ?_
      refine run ?_
      refine G_opd (op_bslice (R := rDValue) (vss := []) (xs := []) rfl (bsl_25_0) rfl rfl (fun _ _ hr => All2.nil)) rfl rfl rfl ?_
      rintro _ _ ⟨A17, n17, c17, rfl, rfl⟩
      refine run ?_
      obtain ⟨q18, h⟩ := req_elim h
      refine G_opd (op_append 0 5 rfl rfl els_sl rfl rfl Tryz.underlying25 zb38 rfl rfl q18) rfl rfl rfl ?_
      rintro _ _ ⟨A19, n19, c19, rfl, rfl⟩
      refine G_norm ([ownC rDValue 38 (.slice A19 n19 c19) (([] : List DValue) ++ x9.More), ownC rDValue 38 (.slice A16 n16 c16) (([] : List DValue) ++ x9.Slots), boxC B13 32 [.int .i64 x9.Kind, .int .i64 x9.Shape, .int .i64 x9.Flags, .int .i64 x9.Age, .slice A16 n16 c16, .slice A11 n11 c11], rowC (elemQ (.slice A1 n1 c1) p7.toNat 6 0) [.int .i64 x9.Kind, .int .i64 x9.Shape, .int .i64 x9.Flags, .int .i64 x9.Age, .slice A10 n10 c10, .slice A11 n11 c11], slC rDValue (.slice A10 n10 c10) x9.Slots, slC rDValue (.slice A11 n11 c11) x9.More, slC rDCell (.slice A1 n1 c1) a0, ownC rDCell 32 (.slice A6 n6 c6) p6]) rfl ?_
      refine run ?_
      refine G_opn (op_store (us := [.slice A19 n19 c19]) (cs' := [.int .i64 x9.Kind, .int .i64 x9.Shape, .int .i64 x9.Flags, .int .i64 x9.Age, .slice A16 n16 c16, .slice A19 n19 c19]) 2 rfl rfl rfl rfl size25 rfl rfl rfl) rfl rfl ?_
      rintro _ _ rfl
      refine G_norm ([ownC rDValue 38 (.slice A19 n19 c19) (([] : List DValue) ++ x9.More), ownC rDValue 38 (.slice A16 n16 c16) (([] : List DValue) ++ x9.Slots), boxC B13 32 [.int .i64 x9.Kind, .int .i64 x9.Shape, .int .i64 x9.Flags, .int .i64 x9.Age, .slice A16 n16 c16, .slice A19 n19 c19], rowC (elemQ (.slice A1 n1 c1) p7.toNat 6 0) [.int .i64 x9.Kind, .int .i64 x9.Shape, .int .i64 x9.Flags, .int .i64 x9.Age, .slice A10 n10 c10, .slice A11 n11 c11], slC rDValue (.slice A10 n10 c10) x9.Slots, slC rDValue (.slice A11 n11 c11) x9.More, slC rDCell (.slice A1 n1 c1) a0, ownC rDCell 32 (.slice A6 n6 c6) p6]) rfl ?_
      refine run ?_
      refine G_rd (rd_boxS (us := [.int .i64 x9.Kind, .int .i64 x9.Shape, .int .i64 x9.Flags, .int .i64 x9.Age, .slice A16 n16 c16, .slice A19 n19 c19]) 2 rfl rfl agg32 rfl) rfl rfl rfl ?_
      refine G_cv (cv_frz 1 rfl) ?_
      refine G_norm ([ownC rDValue 38 (.slice A19 n19 c19) (([] : List DValue) ++ x9.More), slC rDValue (.slice A16 n16 c16) (([] : List DValue) ++ x9.Slots), boxC B13 32 [.int .i64 x9.Kind, .int .i64 x9.Shape, .int .i64 x9.Flags, .int .i64 x9.Age, .slice A16 n16 c16, .slice A19 n19 c19], rowC (elemQ (.slice A1 n1 c1) p7.toNat 6 0) [.int .i64 x9.Kind, .int .i64 x9.Shape, .int .i64 x9.Flags, .int .i64 x9.Age, .slice A10 n10 c10, .slice A11 n11 c11], slC rDValue (.slice A10 n10 c10) x9.Slots, slC rDValue (.slice A11 n11 c11) x9.More, slC rDCell (.slice A1 n1 c1) a0, ownC rDCell 32 (.slice A6 n6 c6) p6]) rfl ?_
      refine G_cv (cv_frz 0 rfl) ?_
      refine G_norm ([slC rDValue (.slice A19 n19 c19) (([] : List DValue) ++ x9.More), slC rDValue (.slice A16 n16 c16) (([] : List DValue) ++ x9.Slots), boxC B13 32 [.int .i64 x9.Kind, .int .i64 x9.Shape, .int .i64 x9.Flags, .int .i64 x9.Age, .slice A16 n16 c16, .slice A19 n19 c19], rowC (elemQ (.slice A1 n1 c1) p7.toNat 6 0) [.int .i64 x9.Kind, .int .i64 x9.Shape, .int .i64 x9.Flags, .int .i64 x9.Age, .slice A10 n10 c10, .slice A11 n11 c11], slC rDValue (.slice A10 n10 c10) x9.Slots, slC rDValue (.slice A11 n11 c11) x9.More, slC rDCell (.slice A1 n1 c1) a0, ownC rDCell 32 (.slice A6 n6 c6) p6]) rfl ?_
      refine G_opd (op_bslice (R := rDCell) (vss := [[.int .i64 x9.Kind, .int .i64 x9.Shape, .int .i64 x9.Flags, .int .i64 x9.Age, .slice A16 n16 c16, .slice A19 n19 c19]]) (xs := [(⟨x9.Kind, x9.Shape, x9.Flags, x9.Age, ([] : List DValue) ++ x9.Slots, ([] : List DValue) ++ x9.More⟩ : DCell)]) rfl (bsl_22_1 _ _ _ _ _ _ _ _ _ _) rfl rfl (fun _ _ hr => .cons (⟨_, _, _, _, _, _, rfl, hr 1 _ rfl rfl, hr 0 _ rfl rfl⟩) All2.nil)) rfl rfl rfl ?_
      rintro _ _ ⟨A20, n20, c20, rfl, rfl⟩
      obtain ⟨q21, h⟩ := req_elim h
      refine G_opd (op_append 8 0 rfl rfl els_own rfl rfl Tryz.underlying22 zb32 rfl rfl q21) rfl rfl rfl ?_
      rintro _ _ ⟨A22, n22, c22, rfl, rfl⟩
      refine G_norm ([ownC rDCell 32 (.slice A20 n20 c20) ([(⟨x9.Kind, x9.Shape, x9.Flags, x9.Age, ([] : List DValue) ++ x9.Slots, ([] : List DValue) ++ x9.More⟩ : DCell)] : List DCell), slC rDValue (.slice A19 n19 c19) (([] : List DValue) ++ x9.More), slC rDValue (.slice A16 n16 c16) (([] : List DValue) ++ x9.Slots), boxC B13 32 [.int .i64 x9.Kind, .int .i64 x9.Shape, .int .i64 x9.Flags, .int .i64 x9.Age, .slice A16 n16 c16, .slice A19 n19 c19], rowC (elemQ (.slice A1 n1 c1) p7.toNat 6 0) [.int .i64 x9.Kind, .int .i64 x9.Shape, .int .i64 x9.Flags, .int .i64 x9.Age, .slice A10 n10 c10, .slice A11 n11 c11], slC rDValue (.slice A10 n10 c10) x9.Slots, slC rDValue (.slice A11 n11 c11) x9.More, slC rDCell (.slice A1 n1 c1) a0, ownC rDCell 32 (.slice A22 n22 c22) (p6 ++ ([(⟨x9.Kind, x9.Shape, x9.Flags, x9.Age, ([] : List DValue) ++ x9.Slots, ([] : List DValue) ++ x9.More⟩ : DCell)] : List DCell))]) rfl ?_
      refine run ?_
      obtain ⟨q23, h⟩ := req_elim h
      refine G_ev (ev_add rfl rfl q23.1 q23.2) rfl rfl rfl ?_
      refine run ?_
      exact ⟨m5, _, _, Nat.lt_succ_self _, ⟨p6 ++ ([(⟨x9.Kind, x9.Shape, x9.Flags, x9.Age, ([] : List DValue) ++ x9.Slots, ([] : List DValue) ++ x9.More⟩ : DCell)] : List DCell), p7 + 1, A22, n22, c22, h, rfl, rfl⟩, sub_cons rfl (sub_cons rfl (sub_cons rfl (sub_cons rfl sub_nil))), cv_sel [7, 8] 9 rfl rfl⟩
    · replace h := cond_f g8 h
      refine run ?_
      exact ⟨_, _, ⟨p6, A6, n6, c6, h, rfl, rfl⟩, sub_cons rfl (sub_cons rfl sub_nil), cv_sel [1] 2 rfl rfl⟩
  · rintro _ _ ⟨p4, A4, n4, c4, h, rfl, rfl⟩
    refine run ?_
    obtain rfl := Option.some.inj h
    exact endG1 rfl rfl (cv_sel [0] 1 rfl rfl) ⟨_, _, _, rfl, rfl⟩
def pantomimeref19_Copied_O (N : Nat) (a0 : DMemory) : Option DMemory :=
  (pantomimeref19_copied_O N a0.Young).bind fun y5 => (pantomimeref19_copied_O N a0.Old).bind fun y7 => some (⟨y5, y7⟩ : DMemory)
theorem pantomimeref19_Copied_ok {N : Nat} {a0 : DMemory} {r : DMemory} (h : pantomimeref19_Copied_O N a0 = some r) {A1 : Option Addr} {n1 c1 : Nat} {A2 : Option Addr} {n2 c2 : Nat} : Okc Tryz.prog 12 [.agg #[.slice A1 n1 c1, .slice A2 n2 c2]] ([slC rDCell (.slice A1 n1 c1) a0.Young, slC rDCell (.slice A2 n2 c2) a0.Old]) (fun (u : Value) (post : List Chunk) => ∃ A0 n0 c0 A1 n1 c1, u = .agg #[.slice A0 n0 c0, .slice A1 n1 c1] ∧ post = [ownC rDCell 32 (.slice A0 n0 c0) r.Young, ownC rDCell 32 (.slice A1 n1 c1) r.Old]) := by
  refine ok_E Tryz.func12 rfl rfl ?_
  simp only [envOf]
  refine run ?_
  refine G_opd (op_box rfl rfl) rfl rfl rfl ?_
  rintro _ _ ⟨B3, rfl, rfl⟩
  refine G_opd (op_alloc zero24 rfl) rfl rfl rfl ?_
  rintro _ _ ⟨B4, rfl, rfl⟩
  refine run ?_
  refine G_seq ?_
  refine G_drawn (by kernel_rfl) ([boxC B3 24 [.slice A1 n1 c1, .slice A2 n2 c2], slC rDCell (.slice A1 n1 c1) a0.Young, slC rDCell (.slice A2 n2 c2) a0.Old]) (cv_sel [1, 2, 3] 4 rfl rfl) ?_
  refine T3_ev 0 rfl (by kernel_rfl) (ev_fa0 rfl fa_24_0) rfl rfl ?_
  refine T3_rd 1 rfl (by kernel_rfl) (rd_box1 0 rfl rfl one22 rfl) rfl rfl ?_
  refine T3_ev 3 rfl (by kernel_rfl) (ev_fa rfl fa_24_1) rfl rfl ?_
  refine T3_rd 4 rfl (by kernel_rfl) (rd_box1 0 rfl rfl one22 rfl) rfl rfl ?_
  obtain ⟨y5, hy5, h⟩ := bind_elim h
  refine T3_opd 2 rfl (by kernel_rfl) (op_call (pantomimeref19_copied_ok hy5) call48 rfl (cv_take [2] [] [0, 1, 2, 3] 4 rfl)) rfl rfl rfl ?_
  rintro _ _ ⟨_, ⟨A6, n6, c6, rfl, rfl⟩, rfl⟩
  refine ⟨[boxC B3 24 [.slice A1 n1 c1, .slice A2 n2 c2], slC rDCell (.slice A1 n1 c1) a0.Young, slC rDCell (.slice A2 n2 c2) a0.Old], cv_sel [2, 3, 4] 5 rfl rfl, cv_refl _, ?_⟩
  refine T3_norm ([ownC rDCell 32 (.slice A6 n6 c6) y5, boxC B4 24 [.slice none 0 0, .slice none 0 0], boxC B3 24 [.slice A1 n1 c1, .slice A2 n2 c2], slC rDCell (.slice A1 n1 c1) a0.Young, slC rDCell (.slice A2 n2 c2) a0.Old]) rfl ?_
  obtain ⟨y7, hy7, h⟩ := bind_elim h
  refine T3_opd 5 rfl (by kernel_rfl) (op_call (pantomimeref19_copied_ok hy7) call48 rfl (cv_take [4] [] [0, 1, 2, 3, 4] 5 rfl)) rfl rfl rfl ?_
  rintro _ _ ⟨_, ⟨A8, n8, c8, rfl, rfl⟩, rfl⟩
  refine ⟨[boxC B3 24 [.slice A1 n1 c1, .slice A2 n2 c2], slC rDCell (.slice A1 n1 c1) a0.Young, slC rDCell (.slice A2 n2 c2) a0.Old], cv_sel [3, 4, 5] 6 rfl rfl, cv_refl _, ?_⟩
  refine T3_norm ([ownC rDCell 32 (.slice A8 n8 c8) y7, ownC rDCell 32 (.slice A6 n6 c6) y5, boxC B4 24 [.slice none 0 0, .slice none 0 0], boxC B3 24 [.slice A1 n1 c1, .slice A2 n2 c2], slC rDCell (.slice A1 n1 c1) a0.Young, slC rDCell (.slice A2 n2 c2) a0.Old]) rfl ?_
  refine T3_ev 6 rfl (by kernel_rfl) (ev_build rfl (bld_24_0_1 _ _ _ _ _ _)) rfl rfl ?_
  refine T3_opn 7 rfl (by kernel_rfl) (op_store (us := [.slice A6 n6 c6, .slice A8 n8 c8]) (cs' := [.slice A6 n6 c6, .slice A8 n8 c8]) 2 rfl rfl rfl rfl size24 rfl rfl rfl) rfl rfl ?_
  rintro _ _ rfl
  refine ⟨[boxC B3 24 [.slice A1 n1 c1, .slice A2 n2 c2], slC rDCell (.slice A1 n1 c1) a0.Young, slC rDCell (.slice A2 n2 c2) a0.Old], cv_sel [3, 4, 5] 6 rfl rfl, cv_refl _, ?_⟩
  refine T3_norm ([ownC rDCell 32 (.slice A8 n8 c8) y7, ownC rDCell 32 (.slice A6 n6 c6) y5, boxC B4 24 [.slice A6 n6 c6, .slice A8 n8 c8], boxC B3 24 [.slice A1 n1 c1, .slice A2 n2 c2], slC rDCell (.slice A1 n1 c1) a0.Young, slC rDCell (.slice A2 n2 c2) a0.Old]) rfl ?_
  refine T3_done (by kernel_rfl) ?_
  refine run ?_
  obtain rfl := Option.some.inj h
  exact endGl (rs := [.cell 2 24]) (vs := [.agg #[.slice A6 n6 c6, .slice A8 n8 c8]]) rfl (.cons (rv_boxS 2 rfl rfl agg24) .nil) rfl (cv_sel [1, 0] 6 rfl rfl) ⟨_, _, _, _, _, _, rfl, rfl⟩
def pantomimeref19_Has_O (N : Nat) (a0 : DMemory) (a1 : Int) : Option Bool :=
  bif decide (a1 < 1) then (some false) else (bif decide (a1.tmod 2 = 1) then (req (in64 (a1 - 1)) (req (in64 ((a1 - 1).tdiv 2)) (some (decide ((a1 - 1).tdiv 2 < (a0.Young.length : Int)))))) else (req (in64 (a1 - 2)) (req (in64 ((a1 - 2).tdiv 2)) (some (decide ((a1 - 2).tdiv 2 < (a0.Old.length : Int)))))))
theorem pantomimeref19_Has_ok {N : Nat} {a0 : DMemory} {a1 : Int} {r : Bool} (h : pantomimeref19_Has_O N a0 a1 = some r) {A1 : Option Addr} {n1 c1 : Nat} {A2 : Option Addr} {n2 c2 : Nat} : Okc Tryz.prog 14 [.agg #[.slice A1 n1 c1, .slice A2 n2 c2], .int .i64 a1] ([slC rDCell (.slice A1 n1 c1) a0.Young, slC rDCell (.slice A2 n2 c2) a0.Old]) (fun (u : Value) (post : List Chunk) => u = .bool r ∧ post = []) := by
  refine ok_E Tryz.func14 rfl rfl ?_
  simp only [envOf]
  refine run ?_
  refine G_opd (op_box rfl rfl) rfl rfl rfl ?_
  rintro _ _ ⟨B3, rfl, rfl⟩
  refine run ?_
  refine G_seq ?_
  refine run ?_
  refine G_cond rfl (fun g4 => ?_) (fun g4 => ?_)
  · replace h := cond_t g4 h
    refine run ?_
    obtain rfl := Option.some.inj h
    exact endG1 rfl rfl (cv_sel [] 3 rfl rfl) ⟨rfl, rfl⟩
  · replace h := cond_f g4 h
    refine run ?_
    refine G_seq ?_
    refine run ?_
    refine G_ev (ev_rem rfl rfl (by decide)) rfl rfl rfl ?_
    refine run ?_
    refine G_cond rfl (fun g5 => ?_) (fun g5 => ?_)
    · replace h := cond_t g5 h
      refine run ?_
      obtain ⟨q6, h⟩ := req_elim h
      refine G_ev (ev_sub rfl rfl q6.1 q6.2) rfl rfl rfl ?_
      obtain ⟨q7, h⟩ := req_elim h
      refine G_ev (ev_quo rfl rfl (by decide) q7.1 q7.2) rfl rfl rfl ?_
      refine run ?_
      refine G_rd (rd_len 1 rfl els_sl rfl Tryz.underlying22) rfl rfl rfl ?_
      refine run ?_
      obtain rfl := Option.some.inj h
      exact endG1 rfl rfl (cv_sel [] 3 rfl rfl) ⟨rfl, rfl⟩
    · replace h := cond_f g5 h
      refine run ?_
      obtain ⟨q8, h⟩ := req_elim h
      refine G_ev (ev_sub rfl rfl q8.1 q8.2) rfl rfl rfl ?_
      obtain ⟨q9, h⟩ := req_elim h
      refine G_ev (ev_quo rfl rfl (by decide) q9.1 q9.2) rfl rfl rfl ?_
      refine run ?_
      refine G_rd (rd_len 2 rfl els_sl rfl Tryz.underlying22) rfl rfl rfl ?_
      refine run ?_
      obtain rfl := Option.some.inj h
      exact endG1 rfl rfl (cv_sel [] 3 rfl rfl) ⟨rfl, rfl⟩
theorem pantomimeref19_Has_free {r : Bool} : ∀ v post, ((fun (u : Value) (post : List Chunk) => u = .bool r ∧ post = [])) v post → ∀ c ∈ post, Free c := by
  rintro _ _ ⟨rfl, rfl⟩; exact mem_nil
def pantomimeref19_At_O (N : Nat) (a0 : DMemory) (a1 : Int) : Option DCell :=
  (pantomimeref19_Has_O N a0 a1).bind fun y5 => bif !y5 then (some (⟨0, 0, 0, 0, [], []⟩ : DCell)) else (bif decide (a1.tmod 2 = 1) then (req (in64 (a1 - 1)) (req (in64 ((a1 - 1).tdiv 2)) ((getE a0.Young ((a1 - 1).tdiv 2)).bind fun x12 => some x12))) else (req (in64 (a1 - 2)) (req (in64 ((a1 - 2).tdiv 2)) ((getE a0.Old ((a1 - 2).tdiv 2)).bind fun x18 => some x18))))
theorem pantomimeref19_At_ok {N : Nat} {a0 : DMemory} {a1 : Int} {r : DCell} (h : pantomimeref19_At_O N a0 a1 = some r) {A1 : Option Addr} {n1 c1 : Nat} {A2 : Option Addr} {n2 c2 : Nat} : Okc Tryz.prog 17 [.agg #[.slice A1 n1 c1, .slice A2 n2 c2], .int .i64 a1] ([slC rDCell (.slice A1 n1 c1) a0.Young, slC rDCell (.slice A2 n2 c2) a0.Old]) (fun (u : Value) (post : List Chunk) => ∃ A0 n0 c0 A1 n1 c1, u = .agg #[.int .i64 r.Kind, .int .i64 r.Shape, .int .i64 r.Flags, .int .i64 r.Age, .slice A0 n0 c0, .slice A1 n1 c1] ∧ post = [slC rDValue (.slice A0 n0 c0) r.Slots, slC rDValue (.slice A1 n1 c1) r.More]) := by
  refine ok_E Tryz.func17 rfl rfl ?_
  simp only [envOf]
  refine run ?_
  refine G_opd (op_box rfl rfl) rfl rfl rfl ?_
  rintro _ _ ⟨B3, rfl, rfl⟩
  refine G_opd (op_alloc zero32 rfl) rfl rfl rfl ?_
  rintro _ _ ⟨B4, rfl, rfl⟩
  refine run ?_
  refine G_seq ?_
  refine run ?_
  refine G_rd (rd_boxS (us := [.slice A1 n1 c1, .slice A2 n2 c2]) 1 rfl rfl agg24 rfl) rfl rfl rfl ?_
  refine run ?_
  obtain ⟨y5, hy5, h⟩ := bind_elim h
  refine G_opd (op_callR (pantomimeref19_Has_ok hy5) call14 rfl (mem_cons (lent_ro (i := 2) rfl rfl) (mem_cons (lent_ro (i := 3) rfl rfl) mem_nil)) pantomimeref19_Has_free) rfl rfl rfl ?_
  rintro _ _ ⟨_, ⟨rfl, rfl⟩, rfl⟩
  refine run ?_
  refine G_cond rfl (fun g6 => ?_) (fun g6 => ?_)
  · replace h := cond_t g6 h
    refine run ?_
    refine G_ev (ev_build rfl (bld_32_)) rfl rfl rfl ?_
    refine G_opn (op_store (us := [.int .i64 0, .int .i64 0, .int .i64 0, .int .i64 0, .slice none 0 0, .slice none 0 0]) (cs' := [.int .i64 0, .int .i64 0, .int .i64 0, .int .i64 0, .slice none 0 0, .slice none 0 0]) 0 rfl rfl rfl rfl size32 rfl rfl rfl) rfl rfl ?_
    rintro _ _ rfl
    refine G_norm ([boxC B4 32 [.int .i64 0, .int .i64 0, .int .i64 0, .int .i64 0, .slice none 0 0, .slice none 0 0], boxC B3 24 [.slice A1 n1 c1, .slice A2 n2 c2], slC rDCell (.slice A1 n1 c1) a0.Young, slC rDCell (.slice A2 n2 c2) a0.Old]) rfl ?_
    refine run ?_
    obtain rfl := Option.some.inj h
    exact endGl (rs := [.cell 4 32]) (vs := [.agg #[.int .i64 0, .int .i64 0, .int .i64 0, .int .i64 0, .slice none 0 0, .slice none 0 0]]) rfl (.cons (rv_boxS 0 rfl rfl agg32) .nil) rfl ((cv_nilS rDValue _).trans ((cv_nilS rDValue _).trans (cv_sel [1, 0] 6 rfl rfl))) ⟨_, _, _, _, _, _, rfl, rfl⟩
  · replace h := cond_f g6 h
    refine run ?_
    refine G_seq ?_
    refine run ?_
    refine G_ev (ev_rem rfl rfl (by decide)) rfl rfl rfl ?_
    refine run ?_
    refine G_cond rfl (fun g9 => ?_) (fun g9 => ?_)
    · replace h := cond_t g9 h
      refine run ?_
      obtain ⟨q10, h⟩ := req_elim h
      refine G_ev (ev_sub rfl rfl q10.1 q10.2) rfl rfl rfl ?_
      obtain ⟨q11, h⟩ := req_elim h
      refine G_ev (ev_quo rfl rfl (by decide) q11.1 q11.2) rfl rfl rfl ?_
      obtain ⟨x12, hx12, h⟩ := bind_elim h
      obtain ⟨lx12, ux12, hx12⟩ := getE_elim hx12
      refine G_rd (rd_idx 2 rfl els_sl rfl rfl Tryz.underlying22 size32 lx12 ux12) rfl rfl rfl ?_
      refine G_row 2 rfl hx12 (open_DCell x12) ?_
      rintro _ _ ⟨A13, n13, c13, A14, n14, c14, rfl, rfl⟩
      refine G_rd (rd_rowS (us := [.int .i64 x12.Kind, .int .i64 x12.Shape, .int .i64 x12.Flags, .int .i64 x12.Age, .slice A13 n13 c13, .slice A14 n14 c14]) 0 rfl rfl agg32 rfl) rfl rfl rfl ?_
      refine G_opn (op_store (us := [.int .i64 x12.Kind, .int .i64 x12.Shape, .int .i64 x12.Flags, .int .i64 x12.Age, .slice A13 n13 c13, .slice A14 n14 c14]) (cs' := [.int .i64 x12.Kind, .int .i64 x12.Shape, .int .i64 x12.Flags, .int .i64 x12.Age, .slice A13 n13 c13, .slice A14 n14 c14]) 3 rfl rfl rfl rfl size32 rfl rfl rfl) rfl rfl ?_
      rintro _ _ rfl
      refine G_norm ([rowC (elemQ (.slice A1 n1 c1) (((a1 - 1).tdiv 2).toNat) 6 0) [.int .i64 x12.Kind, .int .i64 x12.Shape, .int .i64 x12.Flags, .int .i64 x12.Age, .slice A13 n13 c13, .slice A14 n14 c14], slC rDValue (.slice A13 n13 c13) x12.Slots, slC rDValue (.slice A14 n14 c14) x12.More, boxC B4 32 [.int .i64 x12.Kind, .int .i64 x12.Shape, .int .i64 x12.Flags, .int .i64 x12.Age, .slice A13 n13 c13, .slice A14 n14 c14], boxC B3 24 [.slice A1 n1 c1, .slice A2 n2 c2], slC rDCell (.slice A1 n1 c1) a0.Young, slC rDCell (.slice A2 n2 c2) a0.Old]) rfl ?_
      refine run ?_
      obtain rfl := Option.some.inj h
      exact endGl (rs := [.cell 4 32]) (vs := [.agg #[.int .i64 x12.Kind, .int .i64 x12.Shape, .int .i64 x12.Flags, .int .i64 x12.Age, .slice A13 n13 c13, .slice A14 n14 c14]]) rfl (.cons (rv_boxS 3 rfl rfl agg32) .nil) rfl (cv_sel [1, 2] 7 rfl rfl) ⟨_, _, _, _, _, _, rfl, rfl⟩
    · replace h := cond_f g9 h
      refine run ?_
      obtain ⟨q16, h⟩ := req_elim h
      refine G_ev (ev_sub rfl rfl q16.1 q16.2) rfl rfl rfl ?_
      obtain ⟨q17, h⟩ := req_elim h
      refine G_ev (ev_quo rfl rfl (by decide) q17.1 q17.2) rfl rfl rfl ?_
      obtain ⟨x18, hx18, h⟩ := bind_elim h
      obtain ⟨lx18, ux18, hx18⟩ := getE_elim hx18
      refine G_rd (rd_idx 3 rfl els_sl rfl rfl Tryz.underlying22 size32 lx18 ux18) rfl rfl rfl ?_
      refine G_row 3 rfl hx18 (open_DCell x18) ?_
      rintro _ _ ⟨A19, n19, c19, A20, n20, c20, rfl, rfl⟩
      refine G_rd (rd_rowS (us := [.int .i64 x18.Kind, .int .i64 x18.Shape, .int .i64 x18.Flags, .int .i64 x18.Age, .slice A19 n19 c19, .slice A20 n20 c20]) 0 rfl rfl agg32 rfl) rfl rfl rfl ?_
      refine G_opn (op_store (us := [.int .i64 x18.Kind, .int .i64 x18.Shape, .int .i64 x18.Flags, .int .i64 x18.Age, .slice A19 n19 c19, .slice A20 n20 c20]) (cs' := [.int .i64 x18.Kind, .int .i64 x18.Shape, .int .i64 x18.Flags, .int .i64 x18.Age, .slice A19 n19 c19, .slice A20 n20 c20]) 3 rfl rfl rfl rfl size32 rfl rfl rfl) rfl rfl ?_
      rintro _ _ rfl
      refine G_norm ([rowC (elemQ (.slice A2 n2 c2) (((a1 - 2).tdiv 2).toNat) 6 0) [.int .i64 x18.Kind, .int .i64 x18.Shape, .int .i64 x18.Flags, .int .i64 x18.Age, .slice A19 n19 c19, .slice A20 n20 c20], slC rDValue (.slice A19 n19 c19) x18.Slots, slC rDValue (.slice A20 n20 c20) x18.More, boxC B4 32 [.int .i64 x18.Kind, .int .i64 x18.Shape, .int .i64 x18.Flags, .int .i64 x18.Age, .slice A19 n19 c19, .slice A20 n20 c20], boxC B3 24 [.slice A1 n1 c1, .slice A2 n2 c2], slC rDCell (.slice A1 n1 c1) a0.Young, slC rDCell (.slice A2 n2 c2) a0.Old]) rfl ?_
      refine run ?_
      obtain rfl := Option.some.inj h
      exact endGl (rs := [.cell 4 32]) (vs := [.agg #[.int .i64 x18.Kind, .int .i64 x18.Shape, .int .i64 x18.Flags, .int .i64 x18.Age, .slice A19 n19 c19, .slice A20 n20 c20]]) rfl (.cons (rv_boxS 3 rfl rfl agg32) .nil) rfl (cv_sel [1, 2] 7 rfl rfl) ⟨_, _, _, _, _, _, rfl, rfl⟩
def pantomimeref15_SameValues_j4 (N : Nat) : Option Bool :=
  some true
def pantomimeref15_SameValues_l5 (N : Nat) (a0 : (List DValue)) (a1 : (List DValue)) : Nat → Int → Option Bool
  | 0, _ => none
  | m5 + 1, p6 => bif decide (p6 < (a0.length : Int)) then ((getE a0 p6).bind fun x8 => (getE a1 p6).bind fun x9 => bif !decide (x8 = x9) then (some false) else (req (in64 (p6 + 1)) ((pantomimeref15_SameValues_l5 N a0 a1 m5) (p6 + 1)))) else (pantomimeref15_SameValues_j4 N)
theorem pantomimeref15_SameValues_l5_s {N m5 : Nat} {a0 : (List DValue)} {a1 : (List DValue)} {p6 : Int} : pantomimeref15_SameValues_l5 N a0 a1 (m5 + 1) p6 = bif decide (p6 < (a0.length : Int)) then ((getE a0 p6).bind fun x8 => (getE a1 p6).bind fun x9 => bif !decide (x8 = x9) then (some false) else (req (in64 (p6 + 1)) ((pantomimeref15_SameValues_l5 N a0 a1 m5) (p6 + 1)))) else (pantomimeref15_SameValues_j4 N) := rfl
def pantomimeref15_SameValues_O (N : Nat) (a0 : (List DValue)) (a1 : (List DValue)) : Option Bool :=
  bif !decide ((a0.length : Int) = (a1.length : Int)) then (some false) else (pantomimeref15_SameValues_l5 N a0 a1 N 0)
theorem pantomimeref15_SameValues_ok {N : Nat} {a0 : (List DValue)} {a1 : (List DValue)} {r : Bool} (h : pantomimeref15_SameValues_O N a0 a1 = some r) {A1 : Option Addr} {n1 c1 : Nat} {A2 : Option Addr} {n2 c2 : Nat} : Okc Tryz.prog 35 [.slice A1 n1 c1, .slice A2 n2 c2] ([slC rDValue (.slice A1 n1 c1) a0, slC rDValue (.slice A2 n2 c2) a1]) (fun (u : Value) (post : List Chunk) => u = .bool r ∧ post = []) := by
  refine ok_E Tryz.func35 rfl rfl ?_
  simp only [envOf]
  refine run ?_
  refine G_seq ?_
  refine run ?_
  refine G_rd (rd_len 0 rfl els_sl rfl Tryz.underlying25) rfl rfl rfl ?_
  refine run ?_
  refine G_rd (rd_len 1 rfl els_sl rfl Tryz.underlying25) rfl rfl rfl ?_
  refine run ?_
  refine G_cond rfl (fun g3 => ?_) (fun g3 => ?_)
  · replace h := cond_t g3 h
    refine run ?_
    obtain rfl := Option.some.inj h
    exact endG1 rfl rfl (cv_sel [] 2 rfl rfl) ⟨rfl, rfl⟩
  · replace h := cond_f g3 h
    refine run ?_
    refine G_joinF (fun s L => pantomimeref15_SameValues_j4 N = some r ∧ s = [(4, .bool false)] ∧ L = []) ?_ ?_
    · refine run ?_
      refine G_loopF (fun m s L => ∃ (p6 : Int), pantomimeref15_SameValues_l5 N a0 a1 m p6 = some r ∧ s = [(0, .slice A1 n1 c1), (1, .slice A2 n2 c2), (4, .bool false), (5, .int .i64 p6)] ∧ L = [slC rDValue (.slice A1 n1 c1) a0, slC rDValue (.slice A2 n2 c2) a1]) N _ _ ⟨0, h, rfl, rfl⟩ (sub_cons rfl (sub_cons rfl (sub_cons rfl (sub_cons rfl sub_nil)))) (cv_sel [0, 1] 2 rfl rfl) ?_
      rintro (_ | m5) _ _ ⟨p6, h, rfl, rfl⟩
      · exact none_some h
      rw [pantomimeref15_SameValues_l5_s] at h
      refine G_seq ?_
      refine run ?_
      refine G_rd (rd_len 0 rfl els_sl rfl Tryz.underlying25) rfl rfl rfl ?_
      refine run ?_
      refine G_cond rfl (fun g7 => ?_) (fun g7 => ?_)
      · replace h := cond_t g7 h
        refine run ?_
        refine G_seq ?_
        refine G_block ?_
        refine G_seq ?_
        refine G_drawn (by kernel_rfl) _ (cv_refl _) ?_
        refine T3_ev 0 rfl (by kernel_rfl) (ev_move rfl) rfl rfl ?_
        refine T3_ev 1 rfl (by kernel_rfl) (ev_move rfl) rfl rfl ?_
        obtain ⟨x8, hx8, h⟩ := bind_elim h
        obtain ⟨lx8, ux8, hx8⟩ := getE_elim hx8
        refine T3_rd 2 rfl (by kernel_rfl) (rd_idx 0 rfl els_sl rfl rfl Tryz.underlying25 size38 lx8 ux8) rfl rfl ?_
        refine T3_rd 3 rfl (by kernel_rfl) (rd_elemS (us := [.int .i64 x8.Kind, .int .i64 x8.N, .string x8.S]) 0 rfl els_sl rfl hx8 agg38 (fun _ _ _ h => by rw [show _ = _ from h]; rfl)) rfl rfl ?_
        refine T3_ev 4 rfl (by kernel_rfl) (ev_move rfl) rfl rfl ?_
        refine T3_ev 5 rfl (by kernel_rfl) (ev_move rfl) rfl rfl ?_
        obtain ⟨x9, hx9, h⟩ := bind_elim h
        obtain ⟨lx9, ux9, hx9⟩ := getE_elim hx9
        refine T3_rd 6 rfl (by kernel_rfl) (rd_idx 1 rfl els_sl rfl rfl Tryz.underlying25 size38 lx9 ux9) rfl rfl ?_
        refine T3_rd 7 rfl (by kernel_rfl) (rd_elemS (us := [.int .i64 x9.Kind, .int .i64 x9.N, .string x9.S]) 1 rfl els_sl rfl hx9 agg38 (fun _ _ _ h => by rw [show _ = _ from h]; rfl)) rfl rfl ?_
        refine T3_ev 8 rfl (by kernel_rfl) (ev_seqn38 (x := x8) (y := x9) rfl rfl) rfl rfl ?_
        refine T3_done (by kernel_rfl) ?_
        refine nx_n ?_
        refine G_cond rfl (fun g10 => ?_) (fun g10 => ?_)
        · replace h := cond_t g10 h
          refine run ?_
          obtain rfl := Option.some.inj h
          exact endG1 rfl rfl (cv_sel [] 2 rfl rfl) ⟨rfl, rfl⟩
        · replace h := cond_f g10 h
          refine run ?_
          obtain ⟨q11, h⟩ := req_elim h
          refine G_ev (ev_add rfl rfl q11.1 q11.2) rfl rfl rfl ?_
          refine run ?_
          exact ⟨m5, _, _, Nat.lt_succ_self _, ⟨p6 + 1, h, rfl, rfl⟩, sub_cons rfl (sub_cons rfl (sub_cons rfl (sub_cons rfl sub_nil))), cv_sel [0, 1] 2 rfl rfl⟩
      · replace h := cond_f g7 h
        refine run ?_
        exact ⟨_, _, ⟨h, rfl, rfl⟩, sub_cons rfl sub_nil, cv_sel [] 2 rfl rfl⟩
    · rintro _ _ ⟨h, rfl, rfl⟩
      refine run ?_
      obtain rfl := Option.some.inj h
      exact endG1 rfl rfl (cv_sel [] 0 rfl rfl) ⟨rfl, rfl⟩
theorem pantomimeref15_SameValues_free {r : Bool} : ∀ v post, ((fun (u : Value) (post : List Chunk) => u = .bool r ∧ post = [])) v post → ∀ c ∈ post, Free c := by
  rintro _ _ ⟨rfl, rfl⟩; exact mem_nil
def pantomimeref15_Same_O (N : Nat) (a0 : DCell) (a1 : DCell) : Option Bool :=
  (bif decide (a0.Kind = a1.Kind) then (some (decide (a0.Shape = a1.Shape))) else (some false)).bind fun b7 => (bif b7 then (some (decide (a0.Flags = a1.Flags))) else (some false)).bind fun b8 => (bif b8 then (some (decide (a0.Age = a1.Age))) else (some false)).bind fun b9 => (bif b9 then ((pantomimeref15_SameValues_O N a0.Slots a1.Slots).bind fun y11 => some y11) else (some false)).bind fun b10 => (bif b10 then ((pantomimeref15_SameValues_O N a0.More a1.More).bind fun y13 => some y13) else (some false)).bind fun b12 => some b12
theorem pantomimeref15_Same_ok {N : Nat} {a0 : DCell} {a1 : DCell} {r : Bool} (h : pantomimeref15_Same_O N a0 a1 = some r) {A1 : Option Addr} {n1 c1 : Nat} {A2 : Option Addr} {n2 c2 : Nat} {A3 : Option Addr} {n3 c3 : Nat} {A4 : Option Addr} {n4 c4 : Nat} : Okc Tryz.prog 15 [.agg #[.int .i64 a0.Kind, .int .i64 a0.Shape, .int .i64 a0.Flags, .int .i64 a0.Age, .slice A1 n1 c1, .slice A2 n2 c2], .agg #[.int .i64 a1.Kind, .int .i64 a1.Shape, .int .i64 a1.Flags, .int .i64 a1.Age, .slice A3 n3 c3, .slice A4 n4 c4]] ([slC rDValue (.slice A1 n1 c1) a0.Slots, slC rDValue (.slice A2 n2 c2) a0.More, slC rDValue (.slice A3 n3 c3) a1.Slots, slC rDValue (.slice A4 n4 c4) a1.More]) (fun (u : Value) (post : List Chunk) => u = .bool r ∧ post = []) := by
  refine ok_E Tryz.func15 rfl rfl ?_
  simp only [envOf]
  refine run ?_
  refine G_opd (op_box rfl rfl) rfl rfl rfl ?_
  rintro _ _ ⟨B5, rfl, rfl⟩
  refine G_opd (op_box rfl rfl) rfl rfl rfl ?_
  rintro _ _ ⟨B6, rfl, rfl⟩
  refine run ?_
  obtain ⟨b7, hb7, h⟩ := bind_elim h
  refine G_segb 6 16 b7 ?_ ?_
  · clear h
    refine G_case 10 rfl (fun g7 => ?_) (fun g7 => ?_)
    · have h := cond_t g7 hb7
      refine run ?_
      obtain rfl := Option.some.inj h
      exact G_joined (sub_cons rfl (sub_skip (sub_skip (sub_skip (sub_skip (sub_skip (sub_skip sub_refl rfl) rfl) rfl) rfl) rfl) rfl)) (cv_sel [0, 1, 2, 3, 4, 5] 6 rfl rfl)
    · have h := cond_f g7 hb7
      refine run ?_
      obtain rfl := Option.some.inj h
      exact G_joined (sub_cons rfl (sub_skip (sub_skip (sub_skip (sub_skip (sub_skip (sub_skip sub_refl rfl) rfl) rfl) rfl) rfl) rfl)) (cv_sel [0, 1, 2, 3, 4, 5] 6 rfl rfl)
  refine run ?_
  obtain ⟨b8, hb8, h⟩ := bind_elim h
  refine G_segb 6 23 b8 ?_ ?_
  · clear h
    refine G_case 17 rfl (fun g8 => ?_) (fun g8 => ?_)
    · have h := cond_t g8 hb8
      refine run ?_
      obtain rfl := Option.some.inj h
      exact G_joined (sub_cons rfl (sub_skip (sub_skip (sub_skip (sub_skip (sub_skip (sub_skip sub_refl rfl) rfl) rfl) rfl) rfl) rfl)) (cv_sel [0, 1, 2, 3, 4, 5] 6 rfl rfl)
    · have h := cond_f g8 hb8
      refine run ?_
      obtain rfl := Option.some.inj h
      exact G_joined (sub_cons rfl (sub_skip (sub_skip (sub_skip (sub_skip (sub_skip (sub_skip sub_refl rfl) rfl) rfl) rfl) rfl) rfl)) (cv_sel [0, 1, 2, 3, 4, 5] 6 rfl rfl)
  refine run ?_
  obtain ⟨b9, hb9, h⟩ := bind_elim h
  refine G_segb 6 30 b9 ?_ ?_
  · clear h
    refine G_case 24 rfl (fun g9 => ?_) (fun g9 => ?_)
    · have h := cond_t g9 hb9
      refine run ?_
      obtain rfl := Option.some.inj h
      exact G_joined (sub_cons rfl (sub_skip (sub_skip (sub_skip (sub_skip (sub_skip (sub_skip sub_refl rfl) rfl) rfl) rfl) rfl) rfl)) (cv_sel [0, 1, 2, 3, 4, 5] 6 rfl rfl)
    · have h := cond_f g9 hb9
      refine run ?_
      obtain rfl := Option.some.inj h
      exact G_joined (sub_cons rfl (sub_skip (sub_skip (sub_skip (sub_skip (sub_skip (sub_skip sub_refl rfl) rfl) rfl) rfl) rfl) rfl)) (cv_sel [0, 1, 2, 3, 4, 5] 6 rfl rfl)
  refine run ?_
  obtain ⟨b10, hb10, h⟩ := bind_elim h
  refine G_segb 6 37 b10 ?_ ?_
  · clear h
    refine G_case 31 rfl (fun g10 => ?_) (fun g10 => ?_)
    · have h := cond_t g10 hb10
      refine run ?_
      obtain ⟨y11, hy11, h⟩ := bind_elim h
      refine G_opd (op_callR (pantomimeref15_SameValues_ok hy11) call35 rfl (mem_cons (lent_ro (i := 2) rfl rfl) (mem_cons (lent_ro (i := 4) rfl rfl) mem_nil)) pantomimeref15_SameValues_free) rfl (g_tt g10 rfl) rfl ?_
      rintro _ _ ⟨_, ⟨rfl, rfl⟩, rfl⟩
      refine run ?_
      obtain rfl := Option.some.inj h
      exact G_joined (sub_cons rfl (sub_skip (sub_skip (sub_skip (sub_skip (sub_skip (sub_skip sub_refl rfl) rfl) rfl) rfl) rfl) rfl)) (cv_sel [0, 1, 2, 3, 4, 5] 6 rfl rfl)
    · have h := cond_f g10 hb10
      refine run ?_
      obtain rfl := Option.some.inj h
      exact G_joined (sub_cons rfl (sub_skip (sub_skip (sub_skip (sub_skip (sub_skip (sub_skip sub_refl rfl) rfl) rfl) rfl) rfl) rfl)) (cv_sel [0, 1, 2, 3, 4, 5] 6 rfl rfl)
  refine run ?_
  obtain ⟨b12, hb12, h⟩ := bind_elim h
  refine G_segb 6 44 b12 ?_ ?_
  · clear h
    refine G_case 38 rfl (fun g12 => ?_) (fun g12 => ?_)
    · have h := cond_t g12 hb12
      refine run ?_
      obtain ⟨y13, hy13, h⟩ := bind_elim h
      refine G_opd (op_callR (pantomimeref15_SameValues_ok hy13) call35 rfl (mem_cons (lent_ro (i := 3) rfl rfl) (mem_cons (lent_ro (i := 5) rfl rfl) mem_nil)) pantomimeref15_SameValues_free) rfl (g_tt g12 rfl) rfl ?_
      rintro _ _ ⟨_, ⟨rfl, rfl⟩, rfl⟩
      refine run ?_
      obtain rfl := Option.some.inj h
      exact G_joined (sub_cons rfl (sub_skip (sub_skip (sub_skip (sub_skip (sub_skip (sub_skip sub_refl rfl) rfl) rfl) rfl) rfl) rfl)) (cv_sel [0, 1, 2, 3, 4, 5] 6 rfl rfl)
    · have h := cond_f g12 hb12
      refine run ?_
      obtain rfl := Option.some.inj h
      exact G_joined (sub_cons rfl (sub_skip (sub_skip (sub_skip (sub_skip (sub_skip (sub_skip sub_refl rfl) rfl) rfl) rfl) rfl) rfl)) (cv_sel [0, 1, 2, 3, 4, 5] 6 rfl rfl)
  refine run ?_
  obtain rfl := Option.some.inj h
  exact endG1 rfl rfl (cv_sel [] 6 rfl rfl) ⟨rfl, rfl⟩
theorem pantomimeref15_Same_free {r : Bool} : ∀ v post, ((fun (u : Value) (post : List Chunk) => u = .bool r ∧ post = [])) v post → ∀ c ∈ post, Free c := by
  rintro _ _ ⟨rfl, rfl⟩; exact mem_nil
def reach_Right_c1_O (N : Nat) (a0 : Int) (a1 : DMemory) : Option Bool :=
  (reach_Has_O N a1 a0).bind fun y4 => some (!y4)
theorem reach_Right_c1_ok {N : Nat} {a0 : Int} {a1 : DMemory} {r : Bool} (h : reach_Right_c1_O N a0 a1 = some r) {B1 : Nat} {A2 : Option Addr} {n2 c2 : Nat} {A3 : Option Addr} {n3 c3 : Nat} : Okc Tryz.prog 52 [.int .i64 a0, .pointer (some ⟨B1, 0, none⟩)] ([rboxC B1 24 [.slice A2 n2 c2, .slice A3 n3 c3], slC rDCell (.slice A2 n2 c2) a1.Young, slC rDCell (.slice A3 n3 c3) a1.Old]) (fun (u : Value) (post : List Chunk) => u = .bool r ∧ post = []) := by
  refine ok_E Tryz.func52 rfl rfl ?_
  simp only [envOf]
  refine run ?_
  refine G_rd (rd_rboxS (us := [.slice A2 n2 c2, .slice A3 n3 c3]) 0 rfl rfl agg24 rfl) rfl rfl rfl ?_
  refine run ?_
  obtain ⟨y4, hy4, h⟩ := bind_elim h
  refine G_opd (op_callR (reach_Has_ok hy4) call13 rfl (mem_cons (lent_ro (i := 1) rfl rfl) (mem_cons (lent_ro (i := 2) rfl rfl) mem_nil)) reach_Has_free) rfl rfl rfl ?_
  rintro _ _ ⟨_, ⟨rfl, rfl⟩, rfl⟩
  refine run ?_
  obtain rfl := Option.some.inj h
  exact endG1 rfl rfl (cv_sel [] 3 rfl rfl) ⟨rfl, rfl⟩
def slices_IndexFunc_j2 (N : Nat) (ff : Int → Option Bool) : Option Int :=
  some (-1)
def slices_IndexFunc_l3 (N : Nat) (ff : Int → Option Bool) (a0 : (List Int)) : Nat → Int → Option Int
  | 0, _ => none
  | m3 + 1, p4 => bif decide (p4 < (a0.length : Int)) then ((getE a0 p4).bind fun x6 => (ff x6).bind fun y7 => bif y7 then (some p4) else (req (in64 (p4 + 1)) ((slices_IndexFunc_l3 N ff a0 m3) (p4 + 1)))) else (slices_IndexFunc_j2 N ff)
theorem slices_IndexFunc_l3_s {N m3 : Nat} {ff : Int → Option Bool} {a0 : (List Int)} {p4 : Int} : slices_IndexFunc_l3 N ff a0 (m3 + 1) p4 = bif decide (p4 < (a0.length : Int)) then ((getE a0 p4).bind fun x6 => (ff x6).bind fun y7 => bif y7 then (some p4) else (req (in64 (p4 + 1)) ((slices_IndexFunc_l3 N ff a0 m3) (p4 + 1)))) else (slices_IndexFunc_j2 N ff) := rfl
def slices_IndexFunc_O (N : Nat) (a0 : (List Int)) (ff : Int → Option Bool) : Option Int :=
  slices_IndexFunc_l3 N ff a0 N 0
theorem slices_IndexFunc_ok {N : Nat} {a0 : (List Int)} {ff : Int → Option Bool} {r : Int} (h : slices_IndexFunc_O N a0 ff = some r) {A1 : Option Addr} {n1 c1 : Nat} {vf : Value} {G : List Chunk} (hf : FnOk Tryz.prog vf G (fun x => [.int .i64 x]) (fun r => .bool r) ff) : Okc Tryz.prog 113 [.slice A1 n1 c1, vf] (slC (rInt .i64) (.slice A1 n1 c1) a0 :: G) (fun (u : Value) (post : List Chunk) => u = .int .i64 r ∧ post = []) := by
  refine ok_E Tryz.func113 rfl rfl ?_
  simp only [envOf]
  refine run ?_
  refine G_joinF (fun s L => slices_IndexFunc_j2 N ff = some r ∧ s = [(4, .int .i64 0)] ∧ L = G) ?_ ?_
  · refine run ?_
    refine G_rd (rd_len 0 rfl els_sl rfl Tryz.underlying35) rfl rfl rfl ?_
    refine run ?_
    refine G_loopF (fun m s L => ∃ (p4 : Int), slices_IndexFunc_l3 N ff a0 m p4 = some r ∧ s = [(0, .slice A1 n1 c1), (1, vf), (4, .int .i64 0), (7, .int .i64 (a0.length : Int)), (8, .int .i64 p4)] ∧ L = slC (rInt .i64) (.slice A1 n1 c1) a0 :: G) N _ _ ⟨0, h, rfl, rfl⟩ (sub_cons rfl (sub_cons rfl (sub_cons rfl (sub_cons rfl (sub_cons rfl sub_nil))))) (cv_sel [0] 1 rfl rfl) ?_
    rintro (_ | m3) _ _ ⟨p4, h, rfl, rfl⟩
    · exact none_some h
    rw [slices_IndexFunc_l3_s] at h
    refine run ?_
    refine G_seq ?_
    refine G_cond rfl (fun g5 => ?_) (fun g5 => ?_)
    · replace h := cond_t g5 h
      refine run ?_
      refine G_seq ?_
      refine run ?_
      obtain ⟨x6, hx6, h⟩ := bind_elim h
      obtain ⟨lx6, ux6, hx6⟩ := getE_elim hx6
      refine G_rd (rd_idx 0 rfl els_sl rfl rfl Tryz.underlying35 size3 lx6 ux6) rfl rfl rfl ?_
      refine G_rd (rd_elem1 (u := .int .i64 x6) 0 rfl els_sl rfl hx6 one3 (fun _ _ _ h => by rw [show _ = _ from h]; rfl)) rfl rfl rfl ?_
      obtain ⟨y7, hy7, h⟩ := bind_elim h
      refine G_opd (op_callf (a := x6) [slC (rInt .i64) (.slice A1 n1 c1) a0] hf hy7 rfl rfl) rfl rfl rfl ?_
      rintro _ _ ⟨rfl, rfl⟩
      refine G_norm (slC (rInt .i64) (.slice A1 n1 c1) a0 :: G) rfl ?_
      refine run ?_
      refine G_cond rfl (fun g8 => ?_) (fun g8 => ?_)
      · replace h := cond_t g8 h
        refine run ?_
        obtain rfl := Option.some.inj h
        exact endG1 rfl rfl (cv_selD [] 1 rfl rfl) ⟨rfl, rfl⟩
      · replace h := cond_f g8 h
        refine run ?_
        obtain ⟨q9, h⟩ := req_elim h
        refine G_ev (ev_add rfl rfl q9.1 q9.2) rfl rfl rfl ?_
        refine run ?_
        exact ⟨m3, _, _, Nat.lt_succ_self _, ⟨p4 + 1, h, rfl, rfl⟩, sub_cons rfl (sub_cons rfl (sub_cons rfl (sub_cons rfl (sub_cons rfl sub_nil)))), cv_sel [0] 1 rfl rfl⟩
    · replace h := cond_f g5 h
      refine run ?_
      exact ⟨_, _, ⟨h, rfl, rfl⟩, sub_cons rfl sub_nil, cv_sel [] 1 rfl rfl⟩
  · rintro _ _ ⟨h, rfl, rfl⟩
    refine run ?_
    obtain rfl := Option.some.inj h
    exact endG1 rfl rfl (cv_selD [] 0 rfl rfl) ⟨rfl, rfl⟩
theorem slices_IndexFunc_free {r : Int} : ∀ v post, ((fun (u : Value) (post : List Chunk) => u = .int .i64 r ∧ post = [])) v post → ∀ c ∈ post, Free c := by
  rintro _ _ ⟨rfl, rfl⟩; exact mem_nil
def slices_ContainsFunc_O (N : Nat) (a0 : (List Int)) (ff : Int → Option Bool) : Option Bool :=
  (slices_IndexFunc_O N a0 ff).bind fun y2 => some (decide (0 ≤ y2))
theorem slices_ContainsFunc_ok {N : Nat} {a0 : (List Int)} {ff : Int → Option Bool} {r : Bool} (h : slices_ContainsFunc_O N a0 ff = some r) {A1 : Option Addr} {n1 c1 : Nat} {vf : Value} {G : List Chunk} (hf : FnOk Tryz.prog vf G (fun x => [.int .i64 x]) (fun r => .bool r) ff) : Okc Tryz.prog 54 [.slice A1 n1 c1, vf] (slC (rInt .i64) (.slice A1 n1 c1) a0 :: G) (fun (u : Value) (post : List Chunk) => u = .bool r ∧ post = []) := by
  refine ok_E Tryz.func54 rfl rfl ?_
  simp only [envOf]
  refine run ?_
  obtain ⟨y2, hy2, h⟩ := bind_elim h
  refine G_opd (op_callR (slices_IndexFunc_ok hy2 hf) call113 rfl (mem_cons (lent_ro (i := 0) rfl rfl) (lent_tail (E := [slC (rInt .i64) (.slice A1 n1 c1) a0]) hf.1)) slices_IndexFunc_free) rfl rfl rfl ?_
  rintro _ _ ⟨_, ⟨rfl, rfl⟩, rfl⟩
  refine run ?_
  obtain rfl := Option.some.inj h
  exact endG1 rfl rfl (cv_selD [] 1 rfl rfl) ⟨rfl, rfl⟩
theorem slices_ContainsFunc_free {r : Bool} : ∀ v post, ((fun (u : Value) (post : List Chunk) => u = .bool r ∧ post = [])) v post → ∀ c ∈ post, Free c := by
  rintro _ _ ⟨rfl, rfl⟩; exact mem_nil
def cell_Weakly_O (N : Nat) (a0 : DCell) : Option (List Int) :=
  (cell_addresses_O N a0 false).bind fun y4 => some y4
theorem cell_Weakly_ok {N : Nat} {a0 : DCell} {r : (List Int)} (h : cell_Weakly_O N a0 = some r) {A1 : Option Addr} {n1 c1 : Nat} {A2 : Option Addr} {n2 c2 : Nat} : Okc Tryz.prog 56 [.agg #[.int .i64 a0.Kind, .int .i64 a0.Shape, .int .i64 a0.Flags, .int .i64 a0.Age, .slice A1 n1 c1, .slice A2 n2 c2]] ([slC rDValue (.slice A1 n1 c1) a0.Slots, slC rDValue (.slice A2 n2 c2) a0.More]) (fun (u : Value) (post : List Chunk) => ∃ A0 n0 c0, u = .slice A0 n0 c0 ∧ post = [ownC (rInt .i64) 3 (.slice A0 n0 c0) r]) := by
  refine ok_E Tryz.func56 rfl rfl ?_
  simp only [envOf]
  refine run ?_
  refine G_opd (op_box rfl rfl) rfl rfl rfl ?_
  rintro _ _ ⟨B3, rfl, rfl⟩
  refine run ?_
  refine G_rd (rd_boxS (us := [.int .i64 a0.Kind, .int .i64 a0.Shape, .int .i64 a0.Flags, .int .i64 a0.Age, .slice A1 n1 c1, .slice A2 n2 c2]) 0 rfl rfl agg32 rfl) rfl rfl rfl ?_
  obtain ⟨y4, hy4, h⟩ := bind_elim h
  refine G_opd (op_callR (cell_addresses_ok hy4) call114 rfl (mem_cons (lent_ro (i := 1) rfl rfl) (mem_cons (lent_ro (i := 2) rfl rfl) mem_nil)) cell_addresses_free) rfl rfl rfl ?_
  rintro _ _ ⟨_, ⟨A5, n5, c5, rfl, rfl⟩, rfl⟩
  refine run ?_
  obtain rfl := Option.some.inj h
  exact endG1 rfl rfl (cv_sel [0] 4 rfl rfl) ⟨_, _, _, rfl, rfl⟩
theorem cell_Weakly_free {r : (List Int)} : ∀ v post, ((fun (u : Value) (post : List Chunk) => ∃ A0 n0 c0, u = .slice A0 n0 c0 ∧ post = [ownC (rInt .i64) 3 (.slice A0 n0 c0) r])) v post → ∀ c ∈ post, Free c := by
  rintro _ _ ⟨_, _, _, rfl, rfl⟩; exact mem_cons free_own (mem_nil)
def reach_Right_j18 (N : Nat) : Option Bool :=
  some true
def reach_Right_j23 (N : Nat) (kb20 : Int → Option Bool) (a0 : DMemory) (p21 : Int) : Option Bool :=
  req (in64 (p21 + 1)) (kb20 (p21 + 1))
def reach_Right_l26 (N : Nat) (kb20 : Int → Option Bool) (a0 : DMemory) (p21 : Int) (x24 : (List DCell)) : Nat → Int → Option Bool
  | 0, _ => none
  | m26 + 1, p27 => bif decide (p27 < (x24.length : Int)) then ((getE x24 p27).bind fun x29 => (cell_Right_O N x29).bind fun y34 => (bif !y34 then (some true) else ((cell_Leads_O N x29).bind fun y36 => (slices_ContainsFunc_O N y36 (fun x => reach_Right_c1_O N x a0)).bind fun y38 => some y38)).bind fun b35 => (bif b35 then (some true) else ((cell_Weakly_O N x29).bind fun y40 => (slices_ContainsFunc_O N y40 (fun x => reach_Right_c1_O N x a0)).bind fun y42 => some y42)).bind fun b39 => bif b39 then (some false) else (req (in64 (p27 + 1)) ((reach_Right_l26 N kb20 a0 p21 x24 m26) (p27 + 1)))) else (reach_Right_j23 N kb20 a0 p21)
theorem reach_Right_l26_s {N m26 : Nat} {kb20 : Int → Option Bool} {a0 : DMemory} {p21 : Int} {x24 : (List DCell)} {p27 : Int} : reach_Right_l26 N kb20 a0 p21 x24 (m26 + 1) p27 = bif decide (p27 < (x24.length : Int)) then ((getE x24 p27).bind fun x29 => (cell_Right_O N x29).bind fun y34 => (bif !y34 then (some true) else ((cell_Leads_O N x29).bind fun y36 => (slices_ContainsFunc_O N y36 (fun x => reach_Right_c1_O N x a0)).bind fun y38 => some y38)).bind fun b35 => (bif b35 then (some true) else ((cell_Weakly_O N x29).bind fun y40 => (slices_ContainsFunc_O N y40 (fun x => reach_Right_c1_O N x a0)).bind fun y42 => some y42)).bind fun b39 => bif b39 then (some false) else (req (in64 (p27 + 1)) ((reach_Right_l26 N kb20 a0 p21 x24 m26) (p27 + 1)))) else (reach_Right_j23 N kb20 a0 p21) := rfl
def reach_Right_l20 (N : Nat) (a0 : DMemory) : Nat → Int → Option Bool
  | 0, _ => none
  | m20 + 1, p21 => bif decide (p21 < (([a0.Young, a0.Old] : List (List DCell)).length : Int)) then ((getE ([a0.Young, a0.Old] : List (List DCell)) p21).bind fun x24 => reach_Right_l26 N (reach_Right_l20 N a0 m20) a0 p21 x24 N 0) else (reach_Right_j18 N)
theorem reach_Right_l20_s {N m20 : Nat} {a0 : DMemory} {p21 : Int} : reach_Right_l20 N a0 (m20 + 1) p21 = bif decide (p21 < (([a0.Young, a0.Old] : List (List DCell)).length : Int)) then ((getE ([a0.Young, a0.Old] : List (List DCell)) p21).bind fun x24 => reach_Right_l26 N (reach_Right_l20 N a0 m20) a0 p21 x24 N 0) else (reach_Right_j18 N) := rfl
def reach_Right_j7 (N : Nat) (a0 : DMemory) : Option Bool :=
  reach_Right_l20 N a0 N 0
def reach_Right_l8 (N : Nat) (a1 : (List DValue)) (a0 : DMemory) : Nat → Int → Option Bool
  | 0, _ => none
  | m8 + 1, p9 => bif decide (p9 < (a1.length : Int)) then ((getE a1 p9).bind fun x11 => (reach_address_O N x11).bind fun y13 => (bif y13.2 then ((reach_Has_O N a0 y13.1).bind fun y15 => some (!y15)) else (some false)).bind fun b14 => bif b14 then (some false) else (req (in64 (p9 + 1)) ((reach_Right_l8 N a1 a0 m8) (p9 + 1)))) else (reach_Right_j7 N a0)
theorem reach_Right_l8_s {N m8 : Nat} {a1 : (List DValue)} {a0 : DMemory} {p9 : Int} : reach_Right_l8 N a1 a0 (m8 + 1) p9 = bif decide (p9 < (a1.length : Int)) then ((getE a1 p9).bind fun x11 => (reach_address_O N x11).bind fun y13 => (bif y13.2 then ((reach_Has_O N a0 y13.1).bind fun y15 => some (!y15)) else (some false)).bind fun b14 => bif b14 then (some false) else (req (in64 (p9 + 1)) ((reach_Right_l8 N a1 a0 m8) (p9 + 1)))) else (reach_Right_j7 N a0) := rfl
def reach_Right_O (N : Nat) (a0 : DMemory) (a1 : (List DValue)) : Option Bool :=
  req (in64 ((a0.Young.length : Int) + (a0.Old.length : Int))) (bif decide (1048576 < (a0.Young.length : Int) + (a0.Old.length : Int)) then (some false) else (reach_Right_l8 N a1 a0 N 0))
set_option maxHeartbeats 4000000 in
theorem reach_Right_ok {N : Nat} {a0 : DMemory} {a1 : (List DValue)} {r : Bool} (h : reach_Right_O N a0 a1 = some r) {A1 : Option Addr} {n1 c1 : Nat} {A2 : Option Addr} {n2 c2 : Nat} {A3 : Option Addr} {n3 c3 : Nat} : Okc Tryz.prog 18 [.agg #[.slice A1 n1 c1, .slice A2 n2 c2], .slice A3 n3 c3] ([slC rDCell (.slice A1 n1 c1) a0.Young, slC rDCell (.slice A2 n2 c2) a0.Old, slC rDValue (.slice A3 n3 c3) a1]) (fun (u : Value) (post : List Chunk) => u = .bool r ∧ post = []) := by
  refine ok_E Tryz.func18 rfl rfl ?_
  simp only [envOf]
  refine run ?_
  refine G_opd (op_box rfl rfl) rfl rfl rfl ?_
  rintro _ _ ⟨B4, rfl, rfl⟩
  refine run ?_
  refine G_seq ?_
  refine run ?_
  refine G_rd (rd_len 1 rfl els_sl rfl Tryz.underlying22) rfl rfl rfl ?_
  refine run ?_
  refine G_rd (rd_len 2 rfl els_sl rfl Tryz.underlying22) rfl rfl rfl ?_
  obtain ⟨q5, h⟩ := req_elim h
  refine G_ev (ev_add rfl rfl q5.1 q5.2) rfl rfl rfl ?_
  refine run ?_
  refine G_cond rfl (fun g6 => ?_) (fun g6 => ?_)
  · replace h := cond_t g6 h
    refine run ?_
    obtain rfl := Option.some.inj h
    exact endG1 rfl rfl (cv_sel [] 4 rfl rfl) ⟨rfl, rfl⟩
  · replace h := cond_f g6 h
    refine run ?_
    refine G_joinF (fun s L => reach_Right_j7 N a0 = some r ∧ s = [(2, .pointer (some ⟨B4, 0, none⟩)), (4, .bool false)] ∧ L = [slC rDCell (.slice A1 n1 c1) a0.Young, slC rDCell (.slice A2 n2 c2) a0.Old, boxC B4 24 [.slice A1 n1 c1, .slice A2 n2 c2]]) ?_ ?_
    · refine run ?_
      refine G_rd (rd_len 3 rfl els_sl rfl Tryz.underlying25) rfl rfl rfl ?_
      refine run ?_
      refine G_loopF (fun m s L => ∃ (p9 : Int), reach_Right_l8 N a1 a0 m p9 = some r ∧ s = [(2, .pointer (some ⟨B4, 0, none⟩)), (4, .bool false), (22, .slice A3 n3 c3), (23, .int .i64 (a1.length : Int)), (24, .int .i64 p9)] ∧ L = [slC rDValue (.slice A3 n3 c3) a1, slC rDCell (.slice A1 n1 c1) a0.Young, slC rDCell (.slice A2 n2 c2) a0.Old, boxC B4 24 [.slice A1 n1 c1, .slice A2 n2 c2]]) N _ _ ⟨0, h, rfl, rfl⟩ (sub_cons rfl (sub_cons rfl (sub_cons rfl (sub_cons rfl (sub_cons rfl sub_nil))))) (cv_sel [3, 1, 2, 0] 4 rfl rfl) ?_
      rintro (_ | m8) _ _ ⟨p9, h, rfl, rfl⟩
      · exact none_some h
      rw [reach_Right_l8_s] at h
      refine run ?_
      refine G_seq ?_
      refine G_cond rfl (fun g10 => ?_) (fun g10 => ?_)
      · replace h := cond_t g10 h
        refine run ?_
        refine G_seq ?_
        refine run ?_
        obtain ⟨x11, hx11, h⟩ := bind_elim h
        obtain ⟨lx11, ux11, hx11⟩ := getE_elim hx11
        refine G_rd (rd_idx 0 rfl els_sl rfl rfl Tryz.underlying25 size38 lx11 ux11) rfl rfl rfl ?_
        refine G_rd (rd_elemS (us := [.int .i64 x11.Kind, .int .i64 x11.N, .string x11.S]) 0 rfl els_sl rfl hx11 agg38 (fun _ _ _ h => by rw [show _ = _ from h]; rfl)) rfl rfl rfl ?_
        refine G_opd (op_alloc zero38 rfl) rfl rfl rfl ?_
        rintro _ _ ⟨B12, rfl, rfl⟩
        refine G_opn (op_store (us := [.int .i64 x11.Kind, .int .i64 x11.N, .string x11.S]) (cs' := [.int .i64 x11.Kind, .int .i64 x11.N, .string x11.S]) 0 rfl rfl rfl rfl size38 rfl rfl rfl) rfl rfl ?_
        rintro _ _ rfl
        refine G_norm ([boxC B12 38 [.int .i64 x11.Kind, .int .i64 x11.N, .string x11.S], slC rDValue (.slice A3 n3 c3) a1, slC rDCell (.slice A1 n1 c1) a0.Young, slC rDCell (.slice A2 n2 c2) a0.Old, boxC B4 24 [.slice A1 n1 c1, .slice A2 n2 c2]]) rfl ?_
        refine run ?_
        refine G_rd (rd_boxS (us := [.int .i64 x11.Kind, .int .i64 x11.N, .string x11.S]) 0 rfl rfl agg38 rfl) rfl rfl rfl ?_
        obtain ⟨y13, hy13, h⟩ := bind_elim h
        refine G_opd (op_callR (reach_address_ok hy13) call51 rfl (mem_nil) reach_address_free) rfl rfl rfl ?_
        rintro _ _ ⟨_, ⟨rfl, rfl⟩, rfl⟩
        refine run ?_
        obtain ⟨b14, hb14, h⟩ := bind_elim h
        refine G_segb 5 39 b14 ?_ ?_
        · clear h
          refine G_case 34 rfl (fun g14 => ?_) (fun g14 => ?_)
          · have h := cond_t g14 hb14
            refine G_rd (rd_boxS (us := [.slice A1 n1 c1, .slice A2 n2 c2]) 4 rfl rfl agg24 rfl) rfl (g_tt g14 rfl) rfl ?_
            refine run ?_
            obtain ⟨y15, hy15, h⟩ := bind_elim h
            refine G_opd (op_callR (reach_Has_ok hy15) call13 rfl (mem_cons (lent_ro (i := 2) rfl rfl) (mem_cons (lent_ro (i := 3) rfl rfl) mem_nil)) reach_Has_free) rfl (g_tt g14 rfl) rfl ?_
            rintro _ _ ⟨_, ⟨rfl, rfl⟩, rfl⟩
            refine run ?_
            obtain rfl := Option.some.inj h
            exact G_joined (sub_cons rfl (sub_skip (sub_skip (sub_skip (sub_skip (sub_skip sub_refl rfl) rfl) rfl) rfl) rfl)) (cv_sel [0, 1, 2, 3, 4] 5 rfl rfl)
          · have h := cond_f g14 hb14
            refine run ?_
            obtain rfl := Option.some.inj h
            exact G_joined (sub_cons rfl (sub_skip (sub_skip (sub_skip (sub_skip (sub_skip sub_refl rfl) rfl) rfl) rfl) rfl)) (cv_sel [0, 1, 2, 3, 4] 5 rfl rfl)
        refine run ?_
        refine G_cond rfl (fun g16 => ?_) (fun g16 => ?_)
        · replace h := cond_t g16 h
          refine run ?_
          obtain rfl := Option.some.inj h
          exact endG1 rfl rfl (cv_sel [] 5 rfl rfl) ⟨rfl, rfl⟩
        · replace h := cond_f g16 h
          refine run ?_
          obtain ⟨q17, h⟩ := req_elim h
          refine G_ev (ev_add rfl rfl q17.1 q17.2) rfl rfl rfl ?_
          refine run ?_
          exact ⟨m8, _, _, Nat.lt_succ_self _, ⟨p9 + 1, h, rfl, rfl⟩, sub_cons rfl (sub_cons rfl (sub_cons rfl (sub_cons rfl (sub_cons rfl sub_nil)))), cv_sel [1, 2, 3, 4] 5 rfl rfl⟩
      · replace h := cond_f g10 h
        refine run ?_
        exact ⟨_, _, ⟨h, rfl, rfl⟩, sub_cons rfl (sub_cons rfl sub_nil), cv_sel [1, 2, 3] 4 rfl rfl⟩
    · rintro _ _ ⟨h, rfl, rfl⟩
      refine run ?_
      refine G_ev (ev_makeFunc rfl) rfl rfl rfl ?_
      refine run ?_
      refine G_joinF (fun s L => reach_Right_j18 N = some r ∧ s = [(4, .bool false)] ∧ L = []) ?_ ?_
      · refine run ?_
        refine G_opd (op_bslice (R := (Rep.sl rDCell)) (vss := [[.slice A1 n1 c1], [.slice A2 n2 c2]]) (xs := [a0.Young, a0.Old]) rfl (bsl_66_2 _ _ _ _ _ _) rfl rfl (fun _ _ hr => .cons (⟨_, rfl, hr 0 _ rfl rfl⟩) (.cons (⟨_, rfl, hr 1 _ rfl rfl⟩) All2.nil))) rfl rfl rfl ?_
        rintro _ _ ⟨A19, n19, c19, rfl, rfl⟩
        refine G_rd (rd_len 0 rfl els_own rfl Tryz.underlying66) rfl rfl rfl ?_
        refine run ?_
        refine G_loopF (fun m s L => ∃ (p21 : Int), reach_Right_l20 N a0 m p21 = some r ∧ s = [(4, .bool false), (9, .func (.func 52) #[] #[.pointer (some ⟨B4, 0, none⟩)]), (46, .slice A19 n19 c19), (47, .int .i64 (([a0.Young, a0.Old] : List (List DCell)).length : Int)), (48, .int .i64 p21)] ∧ L = [ownC (Rep.sl rDCell) 22 (.slice A19 n19 c19) ([a0.Young, a0.Old] : List (List DCell)), slC rDCell (.slice A1 n1 c1) a0.Young, slC rDCell (.slice A2 n2 c2) a0.Old, boxC B4 24 [.slice A1 n1 c1, .slice A2 n2 c2]]) N _ _ ⟨0, h, rfl, rfl⟩ (sub_cons rfl (sub_cons rfl (sub_cons rfl (sub_cons rfl (sub_cons rfl sub_nil))))) (cv_sel [0, 1, 2, 3] 4 rfl rfl) ?_
        rintro (_ | m20) _ _ ⟨p21, h, rfl, rfl⟩
        · exact none_some h
        rw [reach_Right_l20_s] at h
        refine run ?_
        refine G_seq ?_
        refine G_cond rfl (fun g22 => ?_) (fun g22 => ?_)
        · replace h := cond_t g22 h
          refine run ?_
          refine G_joinF (fun s L => reach_Right_j23 N (reach_Right_l20 N a0 m20) a0 p21 = some r ∧ s = [(4, .bool false), (9, .func (.func 52) #[] #[.pointer (some ⟨B4, 0, none⟩)]), (46, .slice A19 n19 c19), (47, .int .i64 (([a0.Young, a0.Old] : List (List DCell)).length : Int)), (48, .int .i64 p21)] ∧ L = [ownC (Rep.sl rDCell) 22 (.slice A19 n19 c19) ([a0.Young, a0.Old] : List (List DCell)), slC rDCell (.slice A1 n1 c1) a0.Young, slC rDCell (.slice A2 n2 c2) a0.Old, boxC B4 24 [.slice A1 n1 c1, .slice A2 n2 c2]]) ?_ ?_
          · refine run ?_
            obtain ⟨x24, hx24, h⟩ := bind_elim h
            obtain ⟨lx24, ux24, hx24⟩ := getE_elim hx24
            refine G_rd (rd_idx 0 rfl els_own rfl rfl Tryz.underlying66 size22 lx24 ux24) rfl rfl rfl ?_
            refine G_opd (op_elemL (R' := rDCell) (ys := x24) 0 rfl els_own rfl hx24 one22 (fun _ _ _ h => by obtain ⟨u, e, k⟩ := h; exact ⟨u, by rw [e]; rfl, k⟩)) rfl rfl rfl ?_
            rintro _ _ ⟨A25, n25, c25, rfl, rfl⟩
            refine run ?_
            refine G_rd (rd_len 0 rfl els_sl rfl Tryz.underlying22) rfl rfl rfl ?_
            refine run ?_
            refine G_loopF (fun m s L => ∃ (p27 : Int), reach_Right_l26 N (reach_Right_l20 N a0 m20) a0 p21 x24 m p27 = some r ∧ s = [(4, .bool false), (9, .func (.func 52) #[] #[.pointer (some ⟨B4, 0, none⟩)]), (46, .slice A19 n19 c19), (47, .int .i64 (([a0.Young, a0.Old] : List (List DCell)).length : Int)), (48, .int .i64 p21), (52, .slice A25 n25 c25), (53, .int .i64 (x24.length : Int)), (54, .int .i64 p27)] ∧ L = [ownC (Rep.sl rDCell) 22 (.slice A19 n19 c19) ([a0.Young, a0.Old] : List (List DCell)), slC rDCell (.slice A25 n25 c25) x24, slC rDCell (.slice A1 n1 c1) a0.Young, slC rDCell (.slice A2 n2 c2) a0.Old, boxC B4 24 [.slice A1 n1 c1, .slice A2 n2 c2]]) N _ _ ⟨0, h, rfl, rfl⟩ (sub_cons rfl (sub_cons rfl (sub_cons rfl (sub_cons rfl (sub_cons rfl (sub_cons rfl (sub_cons rfl (sub_cons rfl sub_nil)))))))) (cv_sel [1, 0, 2, 3, 4] 5 rfl rfl) ?_
            rintro (_ | m26) _ _ ⟨p27, h, rfl, rfl⟩
            · exact none_some h
            rw [reach_Right_l26_s] at h
            refine run ?_
            refine G_seq ?_
            refine G_cond rfl (fun g28 => ?_) (fun g28 => ?_)
            · replace h := cond_t g28 h
              refine run ?_
              refine G_seq ?_
              refine run ?_
              obtain ⟨x29, hx29, h⟩ := bind_elim h
              obtain ⟨lx29, ux29, hx29⟩ := getE_elim hx29
              refine G_rd (rd_idx 1 rfl els_sl rfl rfl Tryz.underlying22 size32 lx29 ux29) rfl rfl rfl ?_
              refine G_row 1 rfl hx29 (open_DCell x29) ?_
              rintro _ _ ⟨A30, n30, c30, A31, n31, c31, rfl, rfl⟩
              refine G_rd (rd_rowS (us := [.int .i64 x29.Kind, .int .i64 x29.Shape, .int .i64 x29.Flags, .int .i64 x29.Age, .slice A30 n30 c30, .slice A31 n31 c31]) 0 rfl rfl agg32 rfl) rfl rfl rfl ?_
              refine G_opd (op_alloc zero32 rfl) rfl rfl rfl ?_
              rintro _ _ ⟨B33, rfl, rfl⟩
              refine G_opn (op_store (us := [.int .i64 x29.Kind, .int .i64 x29.Shape, .int .i64 x29.Flags, .int .i64 x29.Age, .slice A30 n30 c30, .slice A31 n31 c31]) (cs' := [.int .i64 x29.Kind, .int .i64 x29.Shape, .int .i64 x29.Flags, .int .i64 x29.Age, .slice A30 n30 c30, .slice A31 n31 c31]) 0 rfl rfl rfl rfl size32 rfl rfl rfl) rfl rfl ?_
              rintro _ _ rfl
              refine G_norm ([boxC B33 32 [.int .i64 x29.Kind, .int .i64 x29.Shape, .int .i64 x29.Flags, .int .i64 x29.Age, .slice A30 n30 c30, .slice A31 n31 c31], rowC (elemQ (.slice A25 n25 c25) p27.toNat 6 0) [.int .i64 x29.Kind, .int .i64 x29.Shape, .int .i64 x29.Flags, .int .i64 x29.Age, .slice A30 n30 c30, .slice A31 n31 c31], slC rDValue (.slice A30 n30 c30) x29.Slots, slC rDValue (.slice A31 n31 c31) x29.More, ownC (Rep.sl rDCell) 22 (.slice A19 n19 c19) ([a0.Young, a0.Old] : List (List DCell)), slC rDCell (.slice A25 n25 c25) x24, slC rDCell (.slice A1 n1 c1) a0.Young, slC rDCell (.slice A2 n2 c2) a0.Old, boxC B4 24 [.slice A1 n1 c1, .slice A2 n2 c2]]) rfl ?_
              refine run ?_
              refine G_rd (rd_boxS (us := [.int .i64 x29.Kind, .int .i64 x29.Shape, .int .i64 x29.Flags, .int .i64 x29.Age, .slice A30 n30 c30, .slice A31 n31 c31]) 0 rfl rfl agg32 rfl) rfl rfl rfl ?_
              obtain ⟨y34, hy34, h⟩ := bind_elim h
              refine G_opd (op_callR (cell_Right_ok hy34) call53 rfl (mem_cons (lent_ro (i := 2) rfl rfl) (mem_cons (lent_ro (i := 3) rfl rfl) mem_nil)) cell_Right_free) rfl rfl rfl ?_
              rintro _ _ ⟨_, ⟨rfl, rfl⟩, rfl⟩
              refine run ?_
              obtain ⟨b35, hb35, h⟩ := bind_elim h
              refine G_segb 5 66 b35 ?_ ?_
              · clear h
                refine G_case 61 rfl (fun g35 => ?_) (fun g35 => ?_)
                · have h := cond_t g35 hb35
                  refine run ?_
                  obtain rfl := Option.some.inj h
                  exact G_joined (sub_cons rfl (sub_skip (sub_skip (sub_skip (sub_skip (sub_skip sub_refl rfl) rfl) rfl) rfl) rfl)) (cv_sel [0, 1, 2, 3, 4, 5, 6, 7, 8] 9 rfl rfl)
                · have h := cond_f g35 hb35
                  refine G_rd (rd_boxS (us := [.int .i64 x29.Kind, .int .i64 x29.Shape, .int .i64 x29.Flags, .int .i64 x29.Age, .slice A30 n30 c30, .slice A31 n31 c31]) 0 rfl rfl agg32 rfl) rfl (g_ff g35 rfl) rfl ?_
                  obtain ⟨y36, hy36, h⟩ := bind_elim h
                  refine G_opd (op_callR (cell_Leads_ok hy36) call55 rfl (mem_cons (lent_ro (i := 2) rfl rfl) (mem_cons (lent_ro (i := 3) rfl rfl) mem_nil)) cell_Leads_free) rfl (g_ff g35 rfl) rfl ?_
                  rintro _ _ ⟨_, ⟨A37, n37, c37, rfl, rfl⟩, rfl⟩
                  refine run ?_
                  obtain ⟨y38, hy38, h⟩ := bind_elim h
                  refine G_opd (op_callR (slices_ContainsFunc_ok hy38 ⟨mem_cons rfl (mem_cons rfl (mem_cons rfl mem_nil)), 52, #[], #[.pointer (some ⟨B4, 0, none⟩)], rfl, call52, fun _ _ hh => reach_Right_c1_ok hh⟩) call54 rfl (mem_cons (lent_own (i := 0) rfl) (mem_cons (lent_box (i := 9) rfl) (mem_cons (lent_ro (i := 7) rfl rfl) (mem_cons (lent_ro (i := 8) rfl rfl) mem_nil)))) slices_ContainsFunc_free) rfl (g_ff g35 rfl) rfl ?_
                  rintro _ _ ⟨_, ⟨rfl, rfl⟩, rfl⟩
                  refine run ?_
                  obtain rfl := Option.some.inj h
                  exact G_joined (sub_cons rfl (sub_skip (sub_skip (sub_skip (sub_skip (sub_skip sub_refl rfl) rfl) rfl) rfl) rfl)) (cv_sel [1, 2, 3, 4, 5, 6, 7, 8, 9] 10 rfl rfl)
              refine run ?_
              obtain ⟨b39, hb39, h⟩ := bind_elim h
              refine G_segb 5 72 b39 ?_ ?_
              · clear h
                refine G_case 67 rfl (fun g39 => ?_) (fun g39 => ?_)
                · have h := cond_t g39 hb39
                  refine run ?_
                  obtain rfl := Option.some.inj h
                  exact G_joined (sub_cons rfl (sub_skip (sub_skip (sub_skip (sub_skip (sub_skip sub_refl rfl) rfl) rfl) rfl) rfl)) (cv_sel [0, 1, 2, 3, 4, 5, 6, 7, 8] 9 rfl rfl)
                · have h := cond_f g39 hb39
                  refine G_rd (rd_boxS (us := [.int .i64 x29.Kind, .int .i64 x29.Shape, .int .i64 x29.Flags, .int .i64 x29.Age, .slice A30 n30 c30, .slice A31 n31 c31]) 0 rfl rfl agg32 rfl) rfl (g_ff g39 rfl) rfl ?_
                  obtain ⟨y40, hy40, h⟩ := bind_elim h
                  refine G_opd (op_callR (cell_Weakly_ok hy40) call56 rfl (mem_cons (lent_ro (i := 2) rfl rfl) (mem_cons (lent_ro (i := 3) rfl rfl) mem_nil)) cell_Weakly_free) rfl (g_ff g39 rfl) rfl ?_
                  rintro _ _ ⟨_, ⟨A41, n41, c41, rfl, rfl⟩, rfl⟩
                  refine run ?_
                  obtain ⟨y42, hy42, h⟩ := bind_elim h
                  refine G_opd (op_callR (slices_ContainsFunc_ok hy42 ⟨mem_cons rfl (mem_cons rfl (mem_cons rfl mem_nil)), 52, #[], #[.pointer (some ⟨B4, 0, none⟩)], rfl, call52, fun _ _ hh => reach_Right_c1_ok hh⟩) call54 rfl (mem_cons (lent_own (i := 0) rfl) (mem_cons (lent_box (i := 9) rfl) (mem_cons (lent_ro (i := 7) rfl rfl) (mem_cons (lent_ro (i := 8) rfl rfl) mem_nil)))) slices_ContainsFunc_free) rfl (g_ff g39 rfl) rfl ?_
                  rintro _ _ ⟨_, ⟨rfl, rfl⟩, rfl⟩
                  refine run ?_
                  obtain rfl := Option.some.inj h
                  exact G_joined (sub_cons rfl (sub_skip (sub_skip (sub_skip (sub_skip (sub_skip sub_refl rfl) rfl) rfl) rfl) rfl)) (cv_sel [1, 2, 3, 4, 5, 6, 7, 8, 9] 10 rfl rfl)
              refine run ?_
              refine G_cond rfl (fun g43 => ?_) (fun g43 => ?_)
              · replace h := cond_t g43 h
                refine run ?_
                obtain rfl := Option.some.inj h
                exact endG1 rfl rfl (cv_sel [] 9 rfl rfl) ⟨rfl, rfl⟩
              · replace h := cond_f g43 h
                refine run ?_
                obtain ⟨q44, h⟩ := req_elim h
                refine G_ev (ev_add rfl rfl q44.1 q44.2) rfl rfl rfl ?_
                refine run ?_
                exact ⟨m26, _, _, Nat.lt_succ_self _, ⟨p27 + 1, h, rfl, rfl⟩, sub_cons rfl (sub_cons rfl (sub_cons rfl (sub_cons rfl (sub_cons rfl (sub_cons rfl (sub_cons rfl (sub_cons rfl sub_nil))))))), cv_sel [4, 5, 6, 7, 8] 9 rfl rfl⟩
            · replace h := cond_f g28 h
              refine run ?_
              exact ⟨_, _, ⟨h, rfl, rfl⟩, sub_cons rfl (sub_cons rfl (sub_cons rfl (sub_cons rfl (sub_cons rfl sub_nil)))), cv_sel [0, 2, 3, 4] 5 rfl rfl⟩
          · rintro _ _ ⟨h, rfl, rfl⟩
            refine G_region ?_
            obtain ⟨q45, h⟩ := req_elim h
            refine G_ev (ev_add rfl rfl q45.1 q45.2) rfl rfl rfl ?_
            refine run ?_
            exact ⟨m20, _, _, Nat.lt_succ_self _, ⟨p21 + 1, h, rfl, rfl⟩, sub_cons rfl (sub_cons rfl (sub_cons rfl (sub_cons rfl (sub_cons rfl sub_nil)))), cv_sel [0, 1, 2, 3] 4 rfl rfl⟩
        · replace h := cond_f g22 h
          refine run ?_
          exact ⟨_, _, ⟨h, rfl, rfl⟩, sub_cons rfl sub_nil, cv_sel [] 4 rfl rfl⟩
      · rintro _ _ ⟨h, rfl, rfl⟩
        refine run ?_
        obtain rfl := Option.some.inj h
        exact endG1 rfl rfl (cv_sel [] 0 rfl rfl) ⟨rfl, rfl⟩
theorem reach_Right_free {r : Bool} : ∀ v post, ((fun (u : Value) (post : List Chunk) => u = .bool r ∧ post = [])) v post → ∀ c ∈ post, Free c := by
  rintro _ _ ⟨rfl, rfl⟩; exact mem_nil
def pantomimeref15_May_O (N : Nat) (a0 : DValue) : Option Bool :=
  (bif decide (a0.Kind < 0) then (some true) else (some (decide (9 < a0.Kind)))).bind fun b2 => bif b2 then (some false) else (bif decide (a0.Kind = 5) then ((bif decide (a0.N = 0) then (some (decide ((a0.S.size : Int) ≤ 65536))) else (some false)).bind fun b5 => some b5) else (bif !(a0.S.toList == (⟨#[]⟩ : ByteArray).toList) then (some false) else (bif decide (a0.Kind = 2) then ((bif decide (a0.N = 0) then (some true) else (some (decide (a0.N = 1)))).bind fun b8 => some b8) else (bif decide (a0.Kind = 3) then ((bif decide ((-9007199254740992) ≤ a0.N) then (some (decide (a0.N ≤ 9007199254740992))) else (some false)).bind fun b10 => some b10) else ((bif decide (a0.Kind = 6) then (some true) else (some (decide (a0.Kind = 7)))).bind fun b11 => (bif b11 then (some true) else (some (decide (a0.Kind = 9)))).bind fun b12 => bif b12 then (some (decide (1 ≤ a0.N))) else (some (decide (a0.N = 0))))))))
theorem pantomimeref15_May_ok {N : Nat} {a0 : DValue} {r : Bool} (h : pantomimeref15_May_O N a0 = some r) : Okc Tryz.prog 144 [.agg #[.int .i64 a0.Kind, .int .i64 a0.N, .string a0.S]] ([]) (fun (u : Value) (post : List Chunk) => u = .bool r ∧ post = []) := by
  refine ok_E Tryz.func144 rfl rfl ?_
  simp only [envOf]
  refine run ?_
  refine G_opd (op_box rfl rfl) rfl rfl rfl ?_
  rintro _ _ ⟨B1, rfl, rfl⟩
  refine run ?_
  refine G_seq ?_
  refine run ?_
  obtain ⟨b2, hb2, h⟩ := bind_elim h
  refine G_segb 4 10 b2 ?_ ?_
  · clear h
    refine G_case 6 rfl (fun g2 => ?_) (fun g2 => ?_)
    · have h := cond_t g2 hb2
      refine run ?_
      obtain rfl := Option.some.inj h
      exact G_joined (sub_cons rfl (sub_skip (sub_skip (sub_skip (sub_skip sub_refl rfl) rfl) rfl) rfl)) (cv_sel [0] 1 rfl rfl)
    · have h := cond_f g2 hb2
      refine run ?_
      obtain rfl := Option.some.inj h
      exact G_joined (sub_cons rfl (sub_skip (sub_skip (sub_skip (sub_skip sub_refl rfl) rfl) rfl) rfl)) (cv_sel [0] 1 rfl rfl)
  refine run ?_
  refine G_cond rfl (fun g3 => ?_) (fun g3 => ?_)
  · replace h := cond_t g3 h
    refine run ?_
    obtain rfl := Option.some.inj h
    exact endG1 rfl rfl (cv_sel [] 1 rfl rfl) ⟨rfl, rfl⟩
  · replace h := cond_f g3 h
    refine run ?_
    refine G_seq ?_
    refine run ?_
    refine G_cond rfl (fun g4 => ?_) (fun g4 => ?_)
    · replace h := cond_t g4 h
      refine run ?_
      obtain ⟨b5, hb5, h⟩ := bind_elim h
      refine G_segb 5 22 b5 ?_ ?_
      · clear h
        refine G_case 17 rfl (fun g5 => ?_) (fun g5 => ?_)
        · have h := cond_t g5 hb5
          refine run ?_
          refine G_ev (ev_lenS rfl Tryz.underlying9) rfl (g_tt g5 rfl) rfl ?_
          refine run ?_
          obtain rfl := Option.some.inj h
          exact G_joined (sub_cons rfl (sub_skip (sub_skip (sub_skip (sub_skip (sub_skip sub_refl rfl) rfl) rfl) rfl) rfl)) (cv_sel [0] 1 rfl rfl)
        · have h := cond_f g5 hb5
          refine run ?_
          obtain rfl := Option.some.inj h
          exact G_joined (sub_cons rfl (sub_skip (sub_skip (sub_skip (sub_skip (sub_skip sub_refl rfl) rfl) rfl) rfl) rfl)) (cv_sel [0] 1 rfl rfl)
      refine run ?_
      obtain rfl := Option.some.inj h
      exact endG1 rfl rfl (cv_sel [] 1 rfl rfl) ⟨rfl, rfl⟩
    · replace h := cond_f g4 h
      refine run ?_
      refine G_seq ?_
      refine run ?_
      refine G_ev (ev_strne rfl rfl) rfl rfl rfl ?_
      refine run ?_
      refine G_cond rfl (fun g6 => ?_) (fun g6 => ?_)
      · replace h := cond_t g6 h
        refine run ?_
        obtain rfl := Option.some.inj h
        exact endG1 rfl rfl (cv_sel [] 1 rfl rfl) ⟨rfl, rfl⟩
      · replace h := cond_f g6 h
        refine run ?_
        refine G_seq ?_
        refine run ?_
        refine G_cond rfl (fun g7 => ?_) (fun g7 => ?_)
        · replace h := cond_t g7 h
          refine run ?_
          obtain ⟨b8, hb8, h⟩ := bind_elim h
          refine G_segb 4 36 b8 ?_ ?_
          · clear h
            refine G_case 32 rfl (fun g8 => ?_) (fun g8 => ?_)
            · have h := cond_t g8 hb8
              refine run ?_
              obtain rfl := Option.some.inj h
              exact G_joined (sub_cons rfl (sub_skip (sub_skip (sub_skip (sub_skip sub_refl rfl) rfl) rfl) rfl)) (cv_sel [0] 1 rfl rfl)
            · have h := cond_f g8 hb8
              refine run ?_
              obtain rfl := Option.some.inj h
              exact G_joined (sub_cons rfl (sub_skip (sub_skip (sub_skip (sub_skip sub_refl rfl) rfl) rfl) rfl)) (cv_sel [0] 1 rfl rfl)
          refine run ?_
          obtain rfl := Option.some.inj h
          exact endG1 rfl rfl (cv_sel [] 1 rfl rfl) ⟨rfl, rfl⟩
        · replace h := cond_f g7 h
          refine run ?_
          refine G_seq ?_
          refine run ?_
          refine G_cond rfl (fun g9 => ?_) (fun g9 => ?_)
          · replace h := cond_t g9 h
            refine run ?_
            obtain ⟨b10, hb10, h⟩ := bind_elim h
            refine G_segb 4 47 b10 ?_ ?_
            · clear h
              refine G_case 43 rfl (fun g10 => ?_) (fun g10 => ?_)
              · have h := cond_t g10 hb10
                refine run ?_
                obtain rfl := Option.some.inj h
                exact G_joined (sub_cons rfl (sub_skip (sub_skip (sub_skip (sub_skip sub_refl rfl) rfl) rfl) rfl)) (cv_sel [0] 1 rfl rfl)
              · have h := cond_f g10 hb10
                refine run ?_
                obtain rfl := Option.some.inj h
                exact G_joined (sub_cons rfl (sub_skip (sub_skip (sub_skip (sub_skip sub_refl rfl) rfl) rfl) rfl)) (cv_sel [0] 1 rfl rfl)
            refine run ?_
            obtain rfl := Option.some.inj h
            exact endG1 rfl rfl (cv_sel [] 1 rfl rfl) ⟨rfl, rfl⟩
          · replace h := cond_f g9 h
            refine run ?_
            refine G_seq ?_
            refine run ?_
            obtain ⟨b11, hb11, h⟩ := bind_elim h
            refine G_segb 4 55 b11 ?_ ?_
            · clear h
              refine G_case 51 rfl (fun g11 => ?_) (fun g11 => ?_)
              · have h := cond_t g11 hb11
                refine run ?_
                obtain rfl := Option.some.inj h
                exact G_joined (sub_cons rfl (sub_skip (sub_skip (sub_skip (sub_skip sub_refl rfl) rfl) rfl) rfl)) (cv_sel [0] 1 rfl rfl)
              · have h := cond_f g11 hb11
                refine run ?_
                obtain rfl := Option.some.inj h
                exact G_joined (sub_cons rfl (sub_skip (sub_skip (sub_skip (sub_skip sub_refl rfl) rfl) rfl) rfl)) (cv_sel [0] 1 rfl rfl)
            refine run ?_
            obtain ⟨b12, hb12, h⟩ := bind_elim h
            refine G_segb 4 60 b12 ?_ ?_
            · clear h
              refine G_case 56 rfl (fun g12 => ?_) (fun g12 => ?_)
              · have h := cond_t g12 hb12
                refine run ?_
                obtain rfl := Option.some.inj h
                exact G_joined (sub_cons rfl (sub_skip (sub_skip (sub_skip (sub_skip sub_refl rfl) rfl) rfl) rfl)) (cv_sel [0] 1 rfl rfl)
              · have h := cond_f g12 hb12
                refine run ?_
                obtain rfl := Option.some.inj h
                exact G_joined (sub_cons rfl (sub_skip (sub_skip (sub_skip (sub_skip sub_refl rfl) rfl) rfl) rfl)) (cv_sel [0] 1 rfl rfl)
            refine run ?_
            refine G_cond rfl (fun g13 => ?_) (fun g13 => ?_)
            · replace h := cond_t g13 h
              refine run ?_
              obtain rfl := Option.some.inj h
              exact endG1 rfl rfl (cv_sel [] 1 rfl rfl) ⟨rfl, rfl⟩
            · replace h := cond_f g13 h
              refine run ?_
              obtain rfl := Option.some.inj h
              exact endG1 rfl rfl (cv_sel [] 1 rfl rfl) ⟨rfl, rfl⟩
theorem pantomimeref15_May_free {r : Bool} : ∀ v post, ((fun (u : Value) (post : List Chunk) => u = .bool r ∧ post = [])) v post → ∀ c ∈ post, Free c := by
  rintro _ _ ⟨rfl, rfl⟩; exact mem_nil
def pantomimeref15_Props_O (N : Nat) (a0 : Int) : Option Bool :=
  (bif decide (a0 = 1) then (some true) else (some (decide (a0 = 2)))).bind fun b1 => (bif b1 then (some true) else (some (decide (a0 = 3)))).bind fun b2 => (bif b2 then (some true) else (some (decide (a0 = 6)))).bind fun b3 => (bif b3 then (some true) else (some (decide (a0 = 8)))).bind fun b4 => (bif b4 then (some true) else (some (decide (a0 = 9)))).bind fun b5 => (bif b5 then (some true) else (some (decide (a0 = 10)))).bind fun b6 => some b6
theorem pantomimeref15_Props_ok {N : Nat} {a0 : Int} {r : Bool} (h : pantomimeref15_Props_O N a0 = some r) : Okc Tryz.prog 182 [.int .i64 a0] ([]) (fun (u : Value) (post : List Chunk) => u = .bool r ∧ post = []) := by
  refine ok_E Tryz.func182 rfl rfl ?_
  simp only [envOf]
  refine run ?_
  obtain ⟨b1, hb1, h⟩ := bind_elim h
  refine G_segb 3 8 b1 ?_ ?_
  · clear h
    refine G_case 5 rfl (fun g1 => ?_) (fun g1 => ?_)
    · have h := cond_t g1 hb1
      refine run ?_
      obtain rfl := Option.some.inj h
      exact G_joined (sub_cons rfl (sub_skip (sub_skip (sub_skip sub_refl rfl) rfl) rfl)) (cv_sel [] 0 rfl rfl)
    · have h := cond_f g1 hb1
      refine run ?_
      obtain rfl := Option.some.inj h
      exact G_joined (sub_cons rfl (sub_skip (sub_skip (sub_skip sub_refl rfl) rfl) rfl)) (cv_sel [] 0 rfl rfl)
  refine run ?_
  obtain ⟨b2, hb2, h⟩ := bind_elim h
  refine G_segb 3 12 b2 ?_ ?_
  · clear h
    refine G_case 9 rfl (fun g2 => ?_) (fun g2 => ?_)
    · have h := cond_t g2 hb2
      refine run ?_
      obtain rfl := Option.some.inj h
      exact G_joined (sub_cons rfl (sub_skip (sub_skip (sub_skip sub_refl rfl) rfl) rfl)) (cv_sel [] 0 rfl rfl)
    · have h := cond_f g2 hb2
      refine run ?_
      obtain rfl := Option.some.inj h
      exact G_joined (sub_cons rfl (sub_skip (sub_skip (sub_skip sub_refl rfl) rfl) rfl)) (cv_sel [] 0 rfl rfl)
  refine run ?_
  obtain ⟨b3, hb3, h⟩ := bind_elim h
  refine G_segb 3 16 b3 ?_ ?_
  · clear h
    refine G_case 13 rfl (fun g3 => ?_) (fun g3 => ?_)
    · have h := cond_t g3 hb3
      refine run ?_
      obtain rfl := Option.some.inj h
      exact G_joined (sub_cons rfl (sub_skip (sub_skip (sub_skip sub_refl rfl) rfl) rfl)) (cv_sel [] 0 rfl rfl)
    · have h := cond_f g3 hb3
      refine run ?_
      obtain rfl := Option.some.inj h
      exact G_joined (sub_cons rfl (sub_skip (sub_skip (sub_skip sub_refl rfl) rfl) rfl)) (cv_sel [] 0 rfl rfl)
  refine run ?_
  obtain ⟨b4, hb4, h⟩ := bind_elim h
  refine G_segb 3 20 b4 ?_ ?_
  · clear h
    refine G_case 17 rfl (fun g4 => ?_) (fun g4 => ?_)
    · have h := cond_t g4 hb4
      refine run ?_
      obtain rfl := Option.some.inj h
      exact G_joined (sub_cons rfl (sub_skip (sub_skip (sub_skip sub_refl rfl) rfl) rfl)) (cv_sel [] 0 rfl rfl)
    · have h := cond_f g4 hb4
      refine run ?_
      obtain rfl := Option.some.inj h
      exact G_joined (sub_cons rfl (sub_skip (sub_skip (sub_skip sub_refl rfl) rfl) rfl)) (cv_sel [] 0 rfl rfl)
  refine run ?_
  obtain ⟨b5, hb5, h⟩ := bind_elim h
  refine G_segb 3 24 b5 ?_ ?_
  · clear h
    refine G_case 21 rfl (fun g5 => ?_) (fun g5 => ?_)
    · have h := cond_t g5 hb5
      refine run ?_
      obtain rfl := Option.some.inj h
      exact G_joined (sub_cons rfl (sub_skip (sub_skip (sub_skip sub_refl rfl) rfl) rfl)) (cv_sel [] 0 rfl rfl)
    · have h := cond_f g5 hb5
      refine run ?_
      obtain rfl := Option.some.inj h
      exact G_joined (sub_cons rfl (sub_skip (sub_skip (sub_skip sub_refl rfl) rfl) rfl)) (cv_sel [] 0 rfl rfl)
  refine run ?_
  obtain ⟨b6, hb6, h⟩ := bind_elim h
  refine G_segb 3 28 b6 ?_ ?_
  · clear h
    refine G_case 25 rfl (fun g6 => ?_) (fun g6 => ?_)
    · have h := cond_t g6 hb6
      refine run ?_
      obtain rfl := Option.some.inj h
      exact G_joined (sub_cons rfl (sub_skip (sub_skip (sub_skip sub_refl rfl) rfl) rfl)) (cv_sel [] 0 rfl rfl)
    · have h := cond_f g6 hb6
      refine run ?_
      obtain rfl := Option.some.inj h
      exact G_joined (sub_cons rfl (sub_skip (sub_skip (sub_skip sub_refl rfl) rfl) rfl)) (cv_sel [] 0 rfl rfl)
  refine run ?_
  obtain rfl := Option.some.inj h
  exact endG1 rfl rfl (cv_sel [] 0 rfl rfl) ⟨rfl, rfl⟩
theorem pantomimeref15_Props_free {r : Bool} : ∀ v post, ((fun (u : Value) (post : List Chunk) => u = .bool r ∧ post = [])) v post → ∀ c ∈ post, Free c := by
  rintro _ _ ⟨rfl, rfl⟩; exact mem_nil
def pantomimeref15_none_O (N : Nat) (a0 : DValue) (a1 : Int) : Option Bool :=
  (bif decide (a0.Kind = 0) then (some true) else (some (decide (a0.Kind = a1)))).bind fun b2 => some b2
theorem pantomimeref15_none_ok {N : Nat} {a0 : DValue} {a1 : Int} {r : Bool} (h : pantomimeref15_none_O N a0 a1 = some r) : Okc Tryz.prog 183 [.agg #[.int .i64 a0.Kind, .int .i64 a0.N, .string a0.S], .int .i64 a1] ([]) (fun (u : Value) (post : List Chunk) => u = .bool r ∧ post = []) := by
  refine ok_E Tryz.func183 rfl rfl ?_
  simp only [envOf]
  refine run ?_
  refine G_opd (op_box rfl rfl) rfl rfl rfl ?_
  rintro _ _ ⟨B1, rfl, rfl⟩
  refine run ?_
  obtain ⟨b2, hb2, h⟩ := bind_elim h
  refine G_segb 5 13 b2 ?_ ?_
  · clear h
    refine G_case 8 rfl (fun g2 => ?_) (fun g2 => ?_)
    · have h := cond_t g2 hb2
      refine run ?_
      obtain rfl := Option.some.inj h
      exact G_joined (sub_cons rfl (sub_skip (sub_skip (sub_skip (sub_skip (sub_skip sub_refl rfl) rfl) rfl) rfl) rfl)) (cv_sel [0] 1 rfl rfl)
    · have h := cond_f g2 hb2
      refine run ?_
      obtain rfl := Option.some.inj h
      exact G_joined (sub_cons rfl (sub_skip (sub_skip (sub_skip (sub_skip (sub_skip sub_refl rfl) rfl) rfl) rfl) rfl)) (cv_sel [0] 1 rfl rfl)
  refine run ?_
  obtain rfl := Option.some.inj h
  exact endG1 rfl rfl (cv_sel [] 1 rfl rfl) ⟨rfl, rfl⟩
theorem pantomimeref15_none_free {r : Bool} : ∀ v post, ((fun (u : Value) (post : List Chunk) => u = .bool r ∧ post = [])) v post → ∀ c ∈ post, Free c := by
  rintro _ _ ⟨rfl, rfl⟩; exact mem_nil
def pantomimeref15_slots_O (N : Nat) (a0 : DCell) : Option Bool :=
  (pantomimeref15_Props_O N a0.Kind).bind fun y4 => (bif y4 then (some true) else ((bif decide (a0.Kind = 7) then (some (decide (0 < (a0.Slots.length : Int)))) else (some false)).bind fun b6 => some b6)).bind fun b5 => bif b5 then ((bif decide (1 ≤ (a0.Slots.length : Int)) then (some (decide ((a0.Slots.length : Int) ≤ 1025))) else (some false)).bind fun b8 => (bif b8 then ((getE a0.Slots 0).bind fun x10 => (bif decide (x10.Kind = 1) then (some true) else ((getE a0.Slots 0).bind fun x12 => some (decide (x12.Kind = 7)))).bind fun b11 => some b11) else (some false)).bind fun b9 => some b9) else (bif decide (a0.Kind = 7) then (some (decide (a0.Shape = 0))) else ((bif !decide (a0.Shape = 0) then (some true) else (some (!decide (a0.Flags = 0)))).bind fun b14 => bif b14 then (some false) else (bif decide (a0.Kind = 5) then ((bif decide ((a0.Slots.length : Int) = 2) then ((getE a0.Slots 0).bind fun x18 => (pantomimeref15_none_O N x18 7).bind fun y19 => some y19) else (some false)).bind fun b17 => (bif b17 then ((getE a0.Slots 1).bind fun x21 => (pantomimeref15_none_O N x21 7).bind fun y22 => some y22) else (some false)).bind fun b20 => some b20) else (some (decide ((a0.Slots.length : Int) = 0))))))
theorem pantomimeref15_slots_ok {N : Nat} {a0 : DCell} {r : Bool} (h : pantomimeref15_slots_O N a0 = some r) {A1 : Option Addr} {n1 c1 : Nat} {A2 : Option Addr} {n2 c2 : Nat} : Okc Tryz.prog 145 [.agg #[.int .i64 a0.Kind, .int .i64 a0.Shape, .int .i64 a0.Flags, .int .i64 a0.Age, .slice A1 n1 c1, .slice A2 n2 c2]] ([slC rDValue (.slice A1 n1 c1) a0.Slots, slC rDValue (.slice A2 n2 c2) a0.More]) (fun (u : Value) (post : List Chunk) => u = .bool r ∧ post = []) := by
  refine ok_E Tryz.func145 rfl rfl ?_
  simp only [envOf]
  refine run ?_
  refine G_opd (op_box rfl rfl) rfl rfl rfl ?_
  rintro _ _ ⟨B3, rfl, rfl⟩
  refine run ?_
  refine G_seq ?_
  refine run ?_
  obtain ⟨y4, hy4, h⟩ := bind_elim h
  refine G_opd (op_callR (pantomimeref15_Props_ok hy4) call182 rfl (mem_nil) pantomimeref15_Props_free) rfl rfl rfl ?_
  rintro _ _ ⟨_, ⟨rfl, rfl⟩, rfl⟩
  refine run ?_
  obtain ⟨b5, hb5, h⟩ := bind_elim h
  refine G_segb 10 16 b5 ?_ ?_
  · clear h
    refine G_case 6 rfl (fun g5 => ?_) (fun g5 => ?_)
    · have h := cond_t g5 hb5
      refine run ?_
      obtain rfl := Option.some.inj h
      exact G_joined (sub_cons rfl (sub_skip (sub_skip (sub_skip (sub_skip (sub_skip (sub_skip (sub_skip (sub_skip (sub_skip (sub_skip sub_refl rfl) rfl) rfl) rfl) rfl) rfl) rfl) rfl) rfl) rfl)) (cv_sel [0, 1, 2] 3 rfl rfl)
    · have h := cond_f g5 hb5
      refine run ?_
      obtain ⟨b6, hb6, h⟩ := bind_elim h
      refine G_segb 5 15 b6 ?_ ?_
      · clear h
        refine G_case 10 rfl (fun g6 => ?_) (fun g6 => ?_)
        · have h := cond_t g6 hb6
          refine run ?_
          refine G_rd (rd_len 1 rfl els_sl rfl Tryz.underlying25) rfl (g_tt g6 rfl) rfl ?_
          refine run ?_
          obtain rfl := Option.some.inj h
          exact G_joined (sub_cons rfl (sub_skip (sub_skip (sub_skip (sub_skip (sub_skip sub_refl rfl) rfl) rfl) rfl) rfl)) (cv_sel [0, 1, 2] 3 rfl rfl)
        · have h := cond_f g6 hb6
          refine run ?_
          obtain rfl := Option.some.inj h
          exact G_joined (sub_cons rfl (sub_skip (sub_skip (sub_skip (sub_skip (sub_skip sub_refl rfl) rfl) rfl) rfl) rfl)) (cv_sel [0, 1, 2] 3 rfl rfl)
      refine run ?_
      obtain rfl := Option.some.inj h
      exact G_joined (sub_cons rfl (sub_skip (sub_skip (sub_skip (sub_skip (sub_skip (sub_skip sub_refl rfl) rfl) rfl) rfl) rfl) rfl)) (cv_sel [0, 1, 2] 3 rfl rfl)
  refine run ?_
  refine G_cond rfl (fun g7 => ?_) (fun g7 => ?_)
  · replace h := cond_t g7 h
    refine run ?_
    refine G_rd (rd_len 1 rfl els_sl rfl Tryz.underlying25) rfl rfl rfl ?_
    refine run ?_
    obtain ⟨b8, hb8, h⟩ := bind_elim h
    refine G_segb 5 26 b8 ?_ ?_
    · clear h
      refine G_case 21 rfl (fun g8 => ?_) (fun g8 => ?_)
      · have h := cond_t g8 hb8
        refine run ?_
        refine G_rd (rd_len 1 rfl els_sl rfl Tryz.underlying25) rfl (g_tt g8 rfl) rfl ?_
        refine run ?_
        obtain rfl := Option.some.inj h
        exact G_joined (sub_cons rfl (sub_skip (sub_skip (sub_skip (sub_skip (sub_skip sub_refl rfl) rfl) rfl) rfl) rfl)) (cv_sel [0, 1, 2] 3 rfl rfl)
      · have h := cond_f g8 hb8
        refine run ?_
        obtain rfl := Option.some.inj h
        exact G_joined (sub_cons rfl (sub_skip (sub_skip (sub_skip (sub_skip (sub_skip sub_refl rfl) rfl) rfl) rfl) rfl)) (cv_sel [0, 1, 2] 3 rfl rfl)
    refine run ?_
    obtain ⟨b9, hb9, h⟩ := bind_elim h
    refine G_segb 15 42 b9 ?_ ?_
    · clear h
      refine G_case 27 rfl (fun g9 => ?_) (fun g9 => ?_)
      · have h := cond_t g9 hb9
        refine run ?_
        obtain ⟨x10, hx10, h⟩ := bind_elim h
        obtain ⟨lx10, ux10, hx10⟩ := getE_elim hx10
        refine G_rd (rd_idx 1 rfl els_sl rfl rfl Tryz.underlying25 size38 lx10 ux10) rfl (g_tt g9 rfl) rfl ?_
        refine G_rd (rd_fa0 1 rfl els_sl rfl (toNat_lt lx10 ux10) fa_38_0) rfl (g_tt g9 rfl) rfl ?_
        refine G_rd (rd_elem1 (u := .int .i64 x10.Kind) 1 rfl els_sl rfl hx10 one3 (fun _ _ _ h => by rw [show _ = _ from h]; rfl)) rfl (g_tt g9 rfl) rfl ?_
        refine run ?_
        obtain ⟨b11, hb11, h⟩ := bind_elim h
        refine G_segb 7 41 b11 ?_ ?_
        · clear h
          refine G_case 34 rfl (fun g11 => ?_) (fun g11 => ?_)
          · have h := cond_t g11 hb11
            refine run ?_
            obtain rfl := Option.some.inj h
            exact G_joined (sub_cons rfl (sub_skip (sub_skip (sub_skip (sub_skip (sub_skip (sub_skip (sub_skip sub_refl rfl) rfl) rfl) rfl) rfl) rfl) rfl)) (cv_sel [0, 1, 2] 3 rfl rfl)
          · have h := cond_f g11 hb11
            refine run ?_
            obtain ⟨x12, hx12, h⟩ := bind_elim h
            obtain ⟨lx12, ux12, hx12⟩ := getE_elim hx12
            refine G_rd (rd_idx 1 rfl els_sl rfl rfl Tryz.underlying25 size38 lx12 ux12) rfl (g_ff g11 rfl) rfl ?_
            refine G_rd (rd_fa0 1 rfl els_sl rfl (toNat_lt lx12 ux12) fa_38_0) rfl (g_ff g11 rfl) rfl ?_
            refine G_rd (rd_elem1 (u := .int .i64 x12.Kind) 1 rfl els_sl rfl hx12 one3 (fun _ _ _ h => by rw [show _ = _ from h]; rfl)) rfl (g_ff g11 rfl) rfl ?_
            refine run ?_
            obtain rfl := Option.some.inj h
            exact G_joined (sub_cons rfl (sub_skip (sub_skip (sub_skip (sub_skip (sub_skip (sub_skip (sub_skip sub_refl rfl) rfl) rfl) rfl) rfl) rfl) rfl)) (cv_sel [0, 1, 2] 3 rfl rfl)
        refine run ?_
        obtain rfl := Option.some.inj h
        exact G_joined (sub_cons rfl (sub_skip (sub_skip (sub_skip (sub_skip (sub_skip (sub_skip (sub_skip (sub_skip (sub_skip sub_refl rfl) rfl) rfl) rfl) rfl) rfl) rfl) rfl) rfl)) (cv_sel [0, 1, 2] 3 rfl rfl)
      · have h := cond_f g9 hb9
        refine run ?_
        obtain rfl := Option.some.inj h
        exact G_joined (sub_cons rfl (sub_skip (sub_skip (sub_skip (sub_skip (sub_skip (sub_skip (sub_skip (sub_skip (sub_skip (sub_skip (sub_skip (sub_skip (sub_skip (sub_skip (sub_skip sub_refl rfl) rfl) rfl) rfl) rfl) rfl) rfl) rfl) rfl) rfl) rfl) rfl) rfl) rfl) rfl)) (cv_sel [0, 1, 2] 3 rfl rfl)
    refine run ?_
    obtain rfl := Option.some.inj h
    exact endG1 rfl rfl (cv_sel [] 3 rfl rfl) ⟨rfl, rfl⟩
  · replace h := cond_f g7 h
    refine run ?_
    refine G_seq ?_
    refine run ?_
    refine G_cond rfl (fun g13 => ?_) (fun g13 => ?_)
    · replace h := cond_t g13 h
      refine run ?_
      obtain rfl := Option.some.inj h
      exact endG1 rfl rfl (cv_sel [] 3 rfl rfl) ⟨rfl, rfl⟩
    · replace h := cond_f g13 h
      refine run ?_
      refine G_seq ?_
      refine run ?_
      obtain ⟨b14, hb14, h⟩ := bind_elim h
      refine G_segb 4 56 b14 ?_ ?_
      · clear h
        refine G_case 52 rfl (fun g14 => ?_) (fun g14 => ?_)
        · have h := cond_t g14 hb14
          refine run ?_
          obtain rfl := Option.some.inj h
          exact G_joined (sub_cons rfl (sub_skip (sub_skip (sub_skip (sub_skip sub_refl rfl) rfl) rfl) rfl)) (cv_sel [0, 1, 2] 3 rfl rfl)
        · have h := cond_f g14 hb14
          refine run ?_
          obtain rfl := Option.some.inj h
          exact G_joined (sub_cons rfl (sub_skip (sub_skip (sub_skip (sub_skip sub_refl rfl) rfl) rfl) rfl)) (cv_sel [0, 1, 2] 3 rfl rfl)
      refine run ?_
      refine G_cond rfl (fun g15 => ?_) (fun g15 => ?_)
      · replace h := cond_t g15 h
        refine run ?_
        obtain rfl := Option.some.inj h
        exact endG1 rfl rfl (cv_sel [] 3 rfl rfl) ⟨rfl, rfl⟩
      · replace h := cond_f g15 h
        refine run ?_
        refine G_seq ?_
        refine run ?_
        refine G_cond rfl (fun g16 => ?_) (fun g16 => ?_)
        · replace h := cond_t g16 h
          refine run ?_
          refine G_rd (rd_len 1 rfl els_sl rfl Tryz.underlying25) rfl rfl rfl ?_
          refine run ?_
          obtain ⟨b17, hb17, h⟩ := bind_elim h
          refine G_segb 6 70 b17 ?_ ?_
          · clear h
            refine G_case 64 rfl (fun g17 => ?_) (fun g17 => ?_)
            · have h := cond_t g17 hb17
              refine run ?_
              obtain ⟨x18, hx18, h⟩ := bind_elim h
              obtain ⟨lx18, ux18, hx18⟩ := getE_elim hx18
              refine G_rd (rd_idx 1 rfl els_sl rfl rfl Tryz.underlying25 size38 lx18 ux18) rfl (g_tt g17 rfl) rfl ?_
              refine G_rd (rd_elemS (us := [.int .i64 x18.Kind, .int .i64 x18.N, .string x18.S]) 1 rfl els_sl rfl hx18 agg38 (fun _ _ _ h => by rw [show _ = _ from h]; rfl)) rfl (g_tt g17 rfl) rfl ?_
              obtain ⟨y19, hy19, h⟩ := bind_elim h
              refine G_opd (op_callR (pantomimeref15_none_ok hy19) call183 rfl (mem_nil) pantomimeref15_none_free) rfl (g_tt g17 rfl) rfl ?_
              rintro _ _ ⟨_, ⟨rfl, rfl⟩, rfl⟩
              refine run ?_
              obtain rfl := Option.some.inj h
              exact G_joined (sub_cons rfl (sub_skip (sub_skip (sub_skip (sub_skip (sub_skip (sub_skip sub_refl rfl) rfl) rfl) rfl) rfl) rfl)) (cv_sel [0, 1, 2] 3 rfl rfl)
            · have h := cond_f g17 hb17
              refine run ?_
              obtain rfl := Option.some.inj h
              exact G_joined (sub_cons rfl (sub_skip (sub_skip (sub_skip (sub_skip (sub_skip (sub_skip sub_refl rfl) rfl) rfl) rfl) rfl) rfl)) (cv_sel [0, 1, 2] 3 rfl rfl)
          refine run ?_
          obtain ⟨b20, hb20, h⟩ := bind_elim h
          refine G_segb 6 77 b20 ?_ ?_
          · clear h
            refine G_case 71 rfl (fun g20 => ?_) (fun g20 => ?_)
            · have h := cond_t g20 hb20
              refine run ?_
              obtain ⟨x21, hx21, h⟩ := bind_elim h
              obtain ⟨lx21, ux21, hx21⟩ := getE_elim hx21
              refine G_rd (rd_idx 1 rfl els_sl rfl rfl Tryz.underlying25 size38 lx21 ux21) rfl (g_tt g20 rfl) rfl ?_
              refine G_rd (rd_elemS (us := [.int .i64 x21.Kind, .int .i64 x21.N, .string x21.S]) 1 rfl els_sl rfl hx21 agg38 (fun _ _ _ h => by rw [show _ = _ from h]; rfl)) rfl (g_tt g20 rfl) rfl ?_
              obtain ⟨y22, hy22, h⟩ := bind_elim h
              refine G_opd (op_callR (pantomimeref15_none_ok hy22) call183 rfl (mem_nil) pantomimeref15_none_free) rfl (g_tt g20 rfl) rfl ?_
              rintro _ _ ⟨_, ⟨rfl, rfl⟩, rfl⟩
              refine run ?_
              obtain rfl := Option.some.inj h
              exact G_joined (sub_cons rfl (sub_skip (sub_skip (sub_skip (sub_skip (sub_skip (sub_skip sub_refl rfl) rfl) rfl) rfl) rfl) rfl)) (cv_sel [0, 1, 2] 3 rfl rfl)
            · have h := cond_f g20 hb20
              refine run ?_
              obtain rfl := Option.some.inj h
              exact G_joined (sub_cons rfl (sub_skip (sub_skip (sub_skip (sub_skip (sub_skip (sub_skip sub_refl rfl) rfl) rfl) rfl) rfl) rfl)) (cv_sel [0, 1, 2] 3 rfl rfl)
          refine run ?_
          obtain rfl := Option.some.inj h
          exact endG1 rfl rfl (cv_sel [] 3 rfl rfl) ⟨rfl, rfl⟩
        · replace h := cond_f g16 h
          refine run ?_
          refine G_rd (rd_len 1 rfl els_sl rfl Tryz.underlying25) rfl rfl rfl ?_
          refine run ?_
          obtain rfl := Option.some.inj h
          exact endG1 rfl rfl (cv_sel [] 3 rfl rfl) ⟨rfl, rfl⟩
theorem pantomimeref15_slots_free {r : Bool} : ∀ v post, ((fun (u : Value) (post : List Chunk) => u = .bool r ∧ post = [])) v post → ∀ c ∈ post, Free c := by
  rintro _ _ ⟨rfl, rfl⟩; exact mem_nil
def pantomimeref15_num_O (N : Nat) (a0 : DValue) (a1 : Int) (a2 : Int) : Option Bool :=
  (bif decide (a0.Kind = 3) then (some (decide (a1 ≤ a0.N))) else (some false)).bind fun b2 => (bif b2 then (some (decide (a0.N ≤ a2))) else (some false)).bind fun b3 => some b3
theorem pantomimeref15_num_ok {N : Nat} {a0 : DValue} {a1 : Int} {a2 : Int} {r : Bool} (h : pantomimeref15_num_O N a0 a1 a2 = some r) : Okc Tryz.prog 184 [.agg #[.int .i64 a0.Kind, .int .i64 a0.N, .string a0.S], .int .i64 a1, .int .i64 a2] ([]) (fun (u : Value) (post : List Chunk) => u = .bool r ∧ post = []) := by
  refine ok_E Tryz.func184 rfl rfl ?_
  simp only [envOf]
  refine run ?_
  refine G_opd (op_box rfl rfl) rfl rfl rfl ?_
  rintro _ _ ⟨B1, rfl, rfl⟩
  refine run ?_
  obtain ⟨b2, hb2, h⟩ := bind_elim h
  refine G_segb 5 15 b2 ?_ ?_
  · clear h
    refine G_case 10 rfl (fun g2 => ?_) (fun g2 => ?_)
    · have h := cond_t g2 hb2
      refine run ?_
      obtain rfl := Option.some.inj h
      exact G_joined (sub_cons rfl (sub_skip (sub_skip (sub_skip (sub_skip (sub_skip sub_refl rfl) rfl) rfl) rfl) rfl)) (cv_sel [0] 1 rfl rfl)
    · have h := cond_f g2 hb2
      refine run ?_
      obtain rfl := Option.some.inj h
      exact G_joined (sub_cons rfl (sub_skip (sub_skip (sub_skip (sub_skip (sub_skip sub_refl rfl) rfl) rfl) rfl) rfl)) (cv_sel [0] 1 rfl rfl)
  refine run ?_
  obtain ⟨b3, hb3, h⟩ := bind_elim h
  refine G_segb 5 21 b3 ?_ ?_
  · clear h
    refine G_case 16 rfl (fun g3 => ?_) (fun g3 => ?_)
    · have h := cond_t g3 hb3
      refine run ?_
      obtain rfl := Option.some.inj h
      exact G_joined (sub_cons rfl (sub_skip (sub_skip (sub_skip (sub_skip (sub_skip sub_refl rfl) rfl) rfl) rfl) rfl)) (cv_sel [0] 1 rfl rfl)
    · have h := cond_f g3 hb3
      refine run ?_
      obtain rfl := Option.some.inj h
      exact G_joined (sub_cons rfl (sub_skip (sub_skip (sub_skip (sub_skip (sub_skip sub_refl rfl) rfl) rfl) rfl) rfl)) (cv_sel [0] 1 rfl rfl)
  refine run ?_
  obtain rfl := Option.some.inj h
  exact endG1 rfl rfl (cv_sel [] 1 rfl rfl) ⟨rfl, rfl⟩
theorem pantomimeref15_num_free {r : Bool} : ∀ v post, ((fun (u : Value) (post : List Chunk) => u = .bool r ∧ post = [])) v post → ∀ c ∈ post, Free c := by
  rintro _ _ ⟨rfl, rfl⟩; exact mem_nil
end Go.Proofs.YtmbaennilhdieaaGreat
