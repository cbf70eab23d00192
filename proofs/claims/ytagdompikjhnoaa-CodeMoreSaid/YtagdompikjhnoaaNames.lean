/- What the table functions of package code and of its reference compute: contracts. -/
import Derived.Test.YtagdompikjhnoaaRows
import Derived.Test.YtagdompikjhnoaaShelf
import Derived.Test.YtagdompikjhnoaaTbl
import Derived.WalkKit
import Derived.WalkSpells
import Derived.WalkLawsBesides
import Derived.Lib.Hide
import Derived.Deep.QuietTactic
import Derived.BigQuiet
namespace Go.Proofs.Ytagdompikjhnoaa
open Go.RowKit

set_option maxHeartbeats 400000 in
theorem scut_one (s : ByteArray) (c : UInt8) (k : Nat) (w : World) (hk : k + 1 ≤ s.size) (hs : s.size ≤ 1000) (h : Lib.indexByte s.data.toList c = k) :
    Calls Try.prog 68 #[.string s, .string ⟨#[c]⟩] w fun e w' => e = .returned (.tuple #[.string (s.extract 0 k), .string (s.extract (k + 1) s.size), .bool true]) ∧ ∃ n, w' = w.drewN n := by
  have H := Lib.hid h
  clear h
  go_enter Try.func68, Try.ntmps68
  go_wp2_with fail
  refine (Try.stringslite_Index_one _ _ _).mono ?_
  rintro e w' ⟨rfl, rfl⟩
  rw [H.out]
  go_wp2
  go_quiet (fail)
  go_wp2
  go_ret3
  exact ⟨rfl, _, rfl⟩

theorem cut_one (s : ByteArray) (c : UInt8) (k : Nat) (w : World) (hk : k + 1 ≤ s.size) (hs : s.size ≤ 1000) (h : Lib.indexByte s.data.toList c = k) :
    Calls Try.prog 48 #[.string s, .string ⟨#[c]⟩] w fun e w' => e = .returned (.tuple #[.string (s.extract 0 k), .string (s.extract (k + 1) s.size), .bool true]) ∧ ∃ n, w' = w.drewN n := by
  have H := Lib.hid h
  clear h
  go_enter Try.func48, Try.ntmps48
  go_wp2_with fail
  refine (scut_one _ _ k _ hk hs H.out).mono ?_
  rintro e w' ⟨rfl, n, rfl⟩
  go_wp2
  go_ret3
  exact ⟨rfl, n, rfl⟩

theorem wpList_run {P : Program} {ops : Array Oper} {Q : Exit → Act → World → Prop} {a : Act} {w w' : World} {rest : List Oper} {o : Oper} {v : Value} (hg : o.guard = none)
    (hr : (execOp a.eval o).run P w = .ok (.value v) w') (h : wpList P ops Q rest (a.put o.dst v) w') : wpList P ops Q (o :: rest) a w :=
  wpList_plain hg fun _ hK => by unfold Oper.wp; rw [hr]; exact hK _ _ h

theorem below_setRow {B : Nat} (w : World) (g : Nat) (cs : Array Value) (h : B ≤ g) : Below B w (w.setRow g cs) :=
  ⟨rfl, rfl, rfl, by simp, fun k hk => setRow_other w g k cs (by omega)⟩

def zer : Array Value := Array.replicate 55 (.string ⟨#[]⟩)
theorem info71 : (Try.prog.info? 71).map (·.size) = some tblV.size := by kernel_rfl
theorem one71 : tblV.all (·.oneCell') = true := by kernel_rfl
theorem zer_size : zer.size = tblV.size := by kernel_rfl

set_option maxRecDepth 100000 in
theorem rows_any (w : World) :
    Calls Try.prog 49 #[] w fun e w' => e = .returned (.agg tblV) ∧ Below w.heap.size w w' := by
  go_enter Try.func49, Try.ntmps49
  go_step
  go_step
  go_step
  refine wpList_run (v := .pointer (some ⟨w.heap.size, 0, none⟩)) (w' := w.alloc (.cells zer 71)) ?_ ?_ ?_
  · rfl
  · kernel_rfl
  apply wpList_nil
  go_step
  go_step
  go_step
  go_step
  refine wpList_run (v := .agg tblV) (w' := w.alloc (.cells zer 71)) ?_ ?_ ?_
  · rfl
  · kernel_rfl
  refine wpList_store_row (cells := tblV) (g := w.heap.size) (old := zer) (t := 71) rfl 71 _ _ rfl ?_ ?_ ?_ info71 zer_size one71 ?_
  · rfl
  · rfl
  · exact heap_alloc_new w _
  apply wpList_nil
  go_step
  go_step
  go_step
  refine bodyPost_ret (results_cell_row (p := 0) (ty := 71) rfl _ _ w.heap.size 71 tblV (0, 0) _ rfl (setRow_heap _ _ zer _ _ _ (heap_alloc_new w _)) Try.underlying71 rfl info71) rfl ⟨rfl, ?_⟩
  exact ((Below.refl _ w).alloc (Nat.le_refl _) _).trans (below_setRow _ _ _ (Nat.le_refl _))

theorem bx (l : List UInt8) (a b : Nat) : ({ data := l.toArray } : ByteArray).extract a b = ⟨((l.take b).drop a).toArray⟩ := by
  apply ByteArray.ext
  simp [ByteArray.data_extract, List.drop_take]
theorem tblV_get : ∀ k : Fin 55, tblV[(k : Nat)]? = some (.string ⟨(ent k).toArray⟩) := by
  intro k
  have h : (k : Nat) < tbl.length := by have := tbl_len; omega
  simp [tblV, ent, List.getElem?_eq_getElem h]

theorem idx71 (k : Fin 55) : ∀ w : World, (Instr.index 71 (.agg tblV) (.int .i64 ((k : Nat) : Int))).run Try.prog w = .ok (.string ⟨(ent k).toArray⟩) w := by
  intro w
  have h := tblV_get k
  have hk := k.2
  generalize tblV = T at *
  generalize (k : Nat) = n at *
  have e : ((0 : Int) ≤ n ∧ (n : Int) < 55) := by omega
  simp [Instr.index, go_sem, e, part, h]
  omega

theorem row_in (k : Nat) (hk : k < 55) (w : World) :
    Calls Try.prog 23 #[.int .i64 k] w fun e w' => e = .returned (.tuple #[.string ⟨(nmL k).toArray⟩, .string ⟨(ptL k).toArray⟩]) ∧ Below w.heap.size w w' := by
  have hi := idx71 ⟨k, hk⟩
  obtain ⟨f1, f2, f3⟩ := ent_facts ⟨k, hk⟩
  simp only at hi f1 f2 f3
  go_enter Try.func23, Try.ntmps23
  go_wp2_with fail
  refine (rows_any _).mono ?_
  rintro e w' ⟨rfl, hb⟩
  go_wp2_with fail
  refine (cut_one _ _ ((ent k).length - 4) _ ?_ ?_ f3).mono ?_
  · show _ ≤ (ent k).length; omega
  · show (ent k).length ≤ _; omega
  rintro e w2 ⟨rfl, n, rfl⟩
  go_wp2
  go_ret2
  refine ⟨?_, hb.trans ⟨rfl, rfl, rfl, Nat.le_refl _, fun _ _ => rfl⟩⟩
  have e1 : ({ data := (ent k).toArray } : ByteArray).extract 0 ((ent k).length - 4) = ⟨(nmL k).toArray⟩ := by
    rw [bx]; simp [nmL]
  have e2 : ({ data := (ent k).toArray } : ByteArray).extract ((ent k).length - 4 + 1) (ent k).length = ⟨(ptL k).toArray⟩ := by
    rw [bx, show (ent k).length - 4 + 1 = (ent k).length - 3 from by omega]; simp [ptL]
  show Ending.returned (.tuple #[.string (({ data := (ent k).toArray } : ByteArray).extract 0 ((ent k).length - 4)), .string (({ data := (ent k).toArray } : ByteArray).extract ((ent k).length - 4 + 1) (ent k).length)]) = _
  rw [e1, e2]

theorem row_out (k : Int) (hk : k < 0 ∨ 55 ≤ k) (w : World) :
    Calls Try.prog 23 #[.int .i64 k] w fun e w' => e = .returned (.tuple #[.string ⟨#[]⟩, .string ⟨#[]⟩]) ∧ Below w.heap.size w w' := by
  rcases hk with h | h
  all_goals
    go_enter Try.func23, Try.ntmps23
    go_wp2_with fail
    go_ret2
    exact ⟨rfl, Below.refl _ _⟩

def nm (op : Int) : List UInt8 := if 0 ≤ op ∧ op < 55 then nmL op.toNat else []
def pt (op : Int) : List UInt8 := if 0 ≤ op ∧ op < 55 then ptL op.toNat else []
def en (op : Int) : List UInt8 := if 0 ≤ op ∧ op < 55 then ent op.toNat else []

theorem row_any (k : Int) (w : World) :
    Calls Try.prog 23 #[.int .i64 k] w fun e w' => e = .returned (.tuple #[.string ⟨(nm k).toArray⟩, .string ⟨(pt k).toArray⟩]) ∧ Below w.heap.size w w' := by
  by_cases h : 0 ≤ k ∧ k < 55
  · obtain ⟨n, rfl⟩ := Int.eq_ofNat_of_zero_le h.1
    have := row_in n (by omega) w
    simpa [nm, pt, h] using this
  · have := row_out k (by omega) w
    simpa [nm, pt, h] using this

theorem name_any (k : Int) (w : World) :
    Calls Try.prog 8 #[.int .i64 k] w fun e w' => e = .returned (.string ⟨(nm k).toArray⟩) ∧ Below w.heap.size w w' := by
  go_enter Try.func8, Try.ntmps8
  go_wp2_with fail
  refine (row_any _ _).mono ?_
  rintro e w' ⟨rfl, hb⟩
  go_wp2
  go_ret
  exact ⟨rfl, hb⟩

theorem parts_any (k : Int) (w : World) :
    Calls Try.prog 10 #[.int .i64 k] w fun e w' => e = .returned (.string ⟨(pt k).toArray⟩) ∧ Below w.heap.size w w' := by
  go_enter Try.func10, Try.ntmps10
  go_wp2_with fail
  refine (row_any _ _).mono ?_
  rintro e w' ⟨rfl, hb⟩
  go_wp2
  go_ret
  exact ⟨rfl, hb⟩

set_option maxRecDepth 100000 in
theorem rrows_any (w : World) :
    Calls Try.prog 50 #[] w fun e w' => e = .returned (.slice (some ⟨w.heap.size, 0, none⟩) 55 55) ∧ w' = w.alloc (.cells tblV 9) := by
  go_enter Try.func50, Try.ntmps50
  go_step
  go_step
  go_step
  refine wpList_run (v := .slice none 0 0) (w' := w) ?_ ?_ ?_
  · rfl
  · kernel_rfl
  apply wpList_nil
  go_step
  go_step
  go_step
  go_step
  refine wpList_run (v := .slice (some ⟨w.heap.size, 0, none⟩) 55 55) (w' := w.alloc (.cells tblV 9)) ?_ ?_ ?_
  · rfl
  · kernel_rfl
  go_wp2
  go_ret
  exact ⟨rfl, rfl⟩

theorem rrow_in (k : Nat) (hk : k < 55) (w : World) :
    Calls Try.prog 24 #[.int .i64 k] w fun e w' => e = .returned (.string ⟨(ent k).toArray⟩) ∧ Below w.heap.size w w' := by
  have ht := tblV_get ⟨k, hk⟩
  simp only at ht
  go_enter Try.func24, Try.ntmps24
  go_wp2_with fail
  refine (rrows_any _).mono ?_
  rintro e w' ⟨rfl, rfl⟩
  have hc : (w.alloc (.cells tblV 9)).cell? ⟨w.heap.size, k, none⟩ = some (.string ⟨(ent k).toArray⟩) := by
    rw [cell_of_row _ _ k _ _ _ (heap_alloc_new w _)]; exact ht
  have hb : Below w.heap.size w (w.alloc (.cells tblV 9)) := (Below.refl _ w).alloc (Nat.le_refl _) _
  generalize w.alloc (.cells tblV 9) = w1 at *
  clear ht
  go_wp2
  go_ret
  exact ⟨rfl, hb⟩

theorem rrow_out (k : Int) (hk : k < 0 ∨ 55 ≤ k) (w : World) :
    Calls Try.prog 24 #[.int .i64 k] w fun e w' => e = .returned (.string ⟨#[]⟩) ∧ Below w.heap.size w w' := by
  rcases hk with h | h
  all_goals
    go_enter Try.func24, Try.ntmps24
    go_wp2_with fail
    refine (rrows_any _).mono ?_
    rintro e w' ⟨rfl, rfl⟩
    have hb : Below w.heap.size w (w.alloc (.cells tblV 9)) := (Below.refl _ w).alloc (Nat.le_refl _) _
    generalize w.alloc (.cells tblV 9) = w1 at *
    go_wp2_with fail
    go_ret
    exact ⟨rfl, hb⟩

theorem rname_any (k : Int) (w : World) :
    Calls Try.prog 9 #[.int .i64 k] w fun e w' => e = .returned (.string ⟨(nm k).toArray⟩) ∧ Below w.heap.size w w' := by
  by_cases h : 0 ≤ k ∧ k < 55
  · obtain ⟨n, rfl⟩ := Int.eq_ofNat_of_zero_le h.1
    obtain ⟨f1, f2, f3⟩ := ent_facts ⟨n, by omega⟩
    simp only at f1 f2 f3
    have e1 : ({ data := (ent n).toArray } : ByteArray).extract 0 ((ent n).length - 4) = ⟨(nmL n).toArray⟩ := by
      rw [bx]; simp [nmL]
    have e2 : nm (n : Int) = nmL n := by simp [nm, h]
    rw [e2]
    have E1 := Lib.hid e1
    clear e1 e2 f3
    have hne : (ent n).isEmpty = false := by cases h : ent n with | nil => rw [h] at f1; simp at f1 | cons => rfl
    have g1 : (0 : Int) ≤ ((ent n).length : Int) - 4 := by omega
    go_enter Try.func9, Try.ntmps9
    go_wp2_with fail
    refine (rrow_in n (by omega) _).mono ?_
    rintro e w' ⟨rfl, hb⟩
    go_wp2
    go_ret
    refine ⟨?_, hb⟩
    rw [← E1.out]
    rfl
  · have e : nm k = [] := by simp [nm, h]
    rw [e]
    clear e
    go_enter Try.func9, Try.ntmps9
    go_wp2_with fail
    refine (rrow_out k (by omega) _).mono ?_
    rintro e w' ⟨rfl, hb⟩
    go_wp2
    go_ret
    exact ⟨rfl, hb⟩

theorem rparts_any (k : Int) (w : World) :
    Calls Try.prog 11 #[.int .i64 k] w fun e w' => e = .returned (.string ⟨(pt k).toArray⟩) ∧ Below w.heap.size w w' := by
  by_cases h : 0 ≤ k ∧ k < 55
  · obtain ⟨n, rfl⟩ := Int.eq_ofNat_of_zero_le h.1
    obtain ⟨f1, f2, f3⟩ := ent_facts ⟨n, by omega⟩
    simp only at f1 f2 f3
    have e1 : ({ data := (ent n).toArray } : ByteArray).extract ((ent n).length - 3) (ent n).length = ⟨(ptL n).toArray⟩ := by
      rw [bx]; simp [ptL]
    have e2 : pt (n : Int) = ptL n := by simp [pt, h]
    rw [e2]
    have E1 := Lib.hid e1
    clear e1 e2 f3
    have hne : (ent n).isEmpty = false := by cases h : ent n with | nil => rw [h] at f1; simp at f1 | cons => rfl
    have g1 : (0 : Int) ≤ ((ent n).length : Int) - 4 := by omega
    go_enter Try.func11, Try.ntmps11
    go_wp2_with fail
    refine (rrow_in n (by omega) _).mono ?_
    rintro e w' ⟨rfl, hb⟩
    go_wp2
    go_ret
    refine ⟨?_, hb⟩
    rw [← E1.out]
    rfl
  · have e : pt k = [] := by simp [pt, h]
    rw [e]
    clear e
    go_enter Try.func11, Try.ntmps11
    go_wp2_with fail
    refine (rrow_out k (by omega) _).mono ?_
    rintro e w' ⟨rfl, hb⟩
    go_wp2
    go_ret
    exact ⟨rfl, hb⟩


def fl (op : Int) : Bool := decide (0 ≤ op ∧ op < 55) && !(op == 40 || op == 48 || op == 49 || op == 6)

theorem falls_any (k : Int) (w : World) :
    Calls Try.prog 12 #[.int .i64 k] w fun e w' => e = .returned (.bool (fl k)) ∧ w' = w := by
  go_enter Try.func12, Try.ntmps12
  go_wp2
  all_goals (go_ret; refine ⟨?_, rfl⟩; simp_all [fl])
  all_goals omega

def rfb (l : List UInt8) : Bool := !l.isEmpty && !l == [106, 117, 109, 112] && !l == [114, 101, 116, 117, 114, 110] && !l == [116, 104, 114, 111, 119] && !l == [102, 105, 120, 101, 100]
theorem fl_in : ∀ k : Fin 55, rfb (nmL k) = fl ((k : Nat) : Int) := by decide +kernel
theorem fl_eq (k : Int) : rfb (nm k) = fl k := by
  by_cases h : 0 ≤ k ∧ k < 55
  · obtain ⟨n, rfl⟩ := Int.eq_ofNat_of_zero_le h.1
    have := fl_in ⟨n, by omega⟩
    simpa [nm, h] using this
  · simp [nm, fl, h, rfb]

theorem rfalls_of (k : Int) (l : List UInt8) (hl : Hid (nm k = l)) (w : World) :
    Calls Try.prog 13 #[.int .i64 k] w fun e w' => e = .returned (.bool (rfb l)) ∧ Below w.heap.size w w' := by
  go_enter Try.func13, Try.ntmps13
  go_wp2_with fail
  refine (rname_any _ _).mono ?_
  rintro e w' ⟨rfl, hb⟩
  rw [hl.out]
  clear hl
  go_wp2
  all_goals (go_ret; refine ⟨?_, hb⟩; simp_all [rfb])

theorem rfalls_any (k : Int) (w : World) :
    Calls Try.prog 13 #[.int .i64 k] w fun e w' => e = .returned (.bool (fl k)) ∧ Below w.heap.size w w' := by
  rw [← fl_eq]
  exact rfalls_of k _ (Lib.hid rfl) w

theorem pt41 : pt 41 = [106, 114, 45] := by decide +kernel
theorem nm54 : nm 54 = [114, 101, 115, 117, 109, 101] := by decide +kernel
theorem fl41 : fl 41 = true := by decide +kernel
theorem fl40 : fl 40 = false := by decide +kernel

theorem lives_any (w : World) :
    Calls Try.prog 14 #[] w fun e w' => e = .returned (.bool true) ∧ Below w.heap.size w w' := by
  go_enter Try.func14, Try.ntmps14
  go_wp2_with fail
  refine (parts_any _ _).mono ?_
  rintro e w1 ⟨rfl, hb1⟩
  rw [pt41]
  go_wp2_with fail
  refine (falls_any _ _).mono ?_
  rintro e w2 ⟨rfl, rfl⟩
  rw [fl41]
  go_wp2_with fail
  refine (falls_any _ _).mono ?_
  rintro e w2 ⟨rfl, rfl⟩
  rw [fl40]
  go_wp2_with fail
  refine (name_any _ _).mono ?_
  rintro e w2 ⟨rfl, hb2⟩
  rw [nm54]
  go_wp2
  go_ret
  exact ⟨rfl, hb1.trans (hb2.mono hb1.size)⟩

def nms : List (List UInt8) := (List.range 55).map nmL
theorem nm_ne : ∀ j k : Fin 55, nmL j = nmL k → j = k := by decide +kernel
theorem nm_pos : ∀ k : Fin 55, nmL k ≠ [] := by decide +kernel
theorem nm_nil (k : Int) : nm k = [] ↔ ¬ (0 ≤ k ∧ k < 55) := by
  by_cases h : 0 ≤ k ∧ k < 55
  · obtain ⟨n, rfl⟩ := Int.eq_ofNat_of_zero_le h.1
    have := nm_pos ⟨n, by omega⟩
    simpa [nm, h] using this
  · simp [nm, h]
theorem nm_apart (j k : Int) (hj : 0 ≤ j ∧ j < 55) (h : nm j = nm k) : j = k := by
  by_cases hk : 0 ≤ k ∧ k < 55
  · obtain ⟨n, rfl⟩ := Int.eq_ofNat_of_zero_le hj.1
    obtain ⟨m, rfl⟩ := Int.eq_ofNat_of_zero_le hk.1
    have := nm_ne ⟨n, by omega⟩ ⟨m, by omega⟩ (by simpa [nm, hj, hk] using h)
    simp at this
    omega
  · have h2 := (nm_nil k).2 hk
    rw [h2] at h
    exact absurd hj ((nm_nil j).1 h)

theorem acc {P : Program} {f : FuncId} {args : Array Value} {w0 w : World} {E : Ending} (h0 : Below w0.heap.size w0 w)
    (h : Calls P f args w fun e w' => e = E ∧ Below w.heap.size w w') : Calls P f args w fun e w' => e = E ∧ Below w0.heap.size w0 w' :=
  h.mono fun _ _ ⟨he, hb⟩ => ⟨he, h0.trans (hb.mono h0.size)⟩

set_option maxHeartbeats 1000000 in
theorem codeNames_eq (a b : Int) (la lb pa : List UInt8) (fa : Bool) (hla : Hid (nm a = la)) (hlb : Hid (nm b = lb)) (hpa : Hid (pt a = pa)) (hfa : Hid (fl a = fa))
    (hab : la.isEmpty = true ∧ (a < 0 ∨ 55 ≤ a) ∨ (la.isEmpty = false ∧ (0 ≤ a ∧ a < 55) ∧ ((a == b) = true ∨ (a == b) = false ∧ (la == lb) = false))) (w : World) :
    Calls Try.prog 3 #[.int .i64 a, .int .i64 b] w fun e w' => e = .returned (.bool true) ∧ Below w.heap.size w w' := by
  have hb := Below.refl w.heap.size w
  have H := Lib.hid hb
  clear hb
  rcases hab with ⟨hne, ho | ho⟩ | ⟨hne, ⟨h0, h1⟩, hab | ⟨hab, hl⟩⟩
  all_goals
    go_enter Try.func3, Try.ntmps3
    go_wp2_with (first
      | (go_at_call 8; refine (acc H.out (name_any _ _)).mono ?_; clear H; rintro e w1 ⟨rfl, hb⟩; have H := Lib.hid hb; clear hb; first | rw [hla.out] | rw [hlb.out])
      | (go_at_call 9; refine (acc H.out (rname_any _ _)).mono ?_; clear H; rintro e w1 ⟨rfl, hb⟩; have H := Lib.hid hb; clear hb; rw [hla.out])
      | (go_at_call 10; refine (acc H.out (parts_any _ _)).mono ?_; clear H; rintro e w1 ⟨rfl, hb⟩; have H := Lib.hid hb; clear hb; rw [hpa.out])
      | (go_at_call 11; refine (acc H.out (rparts_any _ _)).mono ?_; clear H; rintro e w1 ⟨rfl, hb⟩; have H := Lib.hid hb; clear hb; rw [hpa.out])
      | (go_at_call 12; refine (falls_any _ _).mono ?_; rintro e w1 ⟨rfl, rfl⟩; rw [hfa.out])
      | (go_at_call 13; refine (acc H.out (rfalls_any _ _)).mono ?_; clear H; rintro e w1 ⟨rfl, hb⟩; have H := Lib.hid hb; clear hb; rw [hfa.out])
      | (go_at_call 14; refine (acc H.out (lives_any _)).mono ?_; clear H; rintro e w1 ⟨rfl, hb⟩; have H := Lib.hid hb; clear hb))
    go_ret
    refine ⟨?_, H.out⟩
    first | rfl | (simp; omega)

theorem codeNames_walk (a b : Int) (w : World) :
    Calls Try.prog 3 #[.int .i64 a, .int .i64 b] w fun e w' => e = .returned (.bool true) ∧ Below w.heap.size w w' := by
  refine codeNames_eq a b (nm a) (nm b) (pt a) (fl a) (Lib.hid rfl) (Lib.hid rfl) (Lib.hid rfl) (Lib.hid rfl) ?_ w
  by_cases h : 0 ≤ a ∧ a < 55
  · refine .inr ⟨?_, h, ?_⟩
    · cases hn : nm a with
      | nil => exact absurd h ((nm_nil a).1 hn)
      | cons => rfl
    · by_cases e : a = b
      · exact .inl (by simp [e])
      · refine .inr ⟨by simp [e], ?_⟩
        simp only [beq_eq_false_iff_ne]
        exact fun h' => e (nm_apart a b h h')
  · exact .inl ⟨by simp [(nm_nil a).2 h], by omega⟩
end Go.Proofs.Ytagdompikjhnoaa
