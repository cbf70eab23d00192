/- slices.Equal at the element types of api.Code: equality of the lists of rows. -/
import Derived.Test.YtagdompikjhnoaaRows
import Derived.Test.YtagdompikjhnoaaMem
namespace Go.Proofs.Ytagdompikjhnoaa
open Go.RowKit

theorem take_succ_eq {α : Type} {xs ys : List α} {k : Nat} (h1 : k < xs.length) (h2 : k < ys.length) (h : xs.take k = ys.take k) (e : xs[k] = ys[k]) : xs.take (k + 1) = ys.take (k + 1) := by
  rw [List.take_succ_eq_append_getElem h1, List.take_succ_eq_append_getElem h2, h, e]
theorem eq_of_take {α : Type} {xs ys : List α} {k : Nat} (hk : k = xs.length) (hl : xs.length = ys.length) (h : xs.take k = ys.take k) : xs = ys := by
  subst hk; rw [List.take_length, hl, List.take_length] at h; exact h
theorem ne_of_at {α : Type} {xs ys : List α} {k : Nat} (h1 : k < xs.length) (h2 : k < ys.length) (e : ¬ xs[k] = ys[k]) : xs ≠ ys := by
  intro h; subst h; exact e rfl
theorem ret_bool {a b : Bool} (h : a = b) : Ending.returned (.bool a) = .returned (.bool b) := by rw [h]
theorem bytes_ext {a b : ByteArray} : a.toList = b.toList ↔ a = b := by
  rw [ByteArray.toList_eq, ByteArray.toList_eq]
  exact ⟨fun h => ByteArray.ext (Array.toList_inj.1 h), fun h => by rw [h]⟩

theorem neqIns (W : World) (x y : I4) : (binOp .neq 42 (.agg #[.int .i64 x.a, .int .i64 x.b, .int .i64 x.c, .int .i64 x.d]) (.agg #[.int .i64 y.a, .int .i64 y.b, .int .i64 y.c, .int .i64 y.d])).run Try.prog W = .ok (.bool (decide (x ≠ y))) W := by
  cases x; cases y
  simp [go_sem, I4.mk.injEq]
  repeat' split
  all_goals simp_all

set_option maxHeartbeats 1000000 in
theorem eqIns (v1 v2 : Value) (xs ys : List I4) (w : World) (h1 : Sl w 4 en4 v1 xs) (h2 : Sl w 4 en4 v2 ys) :
    Calls Try.prog 51 #[v1, v2] w fun e w' => e = .returned (.bool (decide (xs = ys))) ∧ Ext w w' := by
  obtain ⟨A1, c1, rfl, hc1, hm1, hr1⟩ := h1
  obtain ⟨A2, c2, rfl, hc2, hm2, hr2⟩ := h2
  by_cases hl : xs.length = ys.length
  · have hlb : ((xs.length : Int) != (ys.length : Int)) = false := by simp [hl]
    go_enter Try.func51, Try.ntmps51
    have HL := Lib.hid hl
    clear hl
    go_wp2
    go_loopw [13] (fun i wr => ∃ k : Nat, k ≤ xs.length ∧ i = .int .i64 k ∧ Hid (xs.take k = ys.take k) ∧ ∃ n, wr = w.drewN n) (fun i _ => xs.length - (intOf i).toNat)
    case atStart => exact ⟨0, Nat.zero_le _, rfl, Lib.hid rfl, 0, rfl⟩
    case round =>
      obtain ⟨k, hk, rfl, HT, n, rfl⟩ := hrel
      by_cases hlt : k < xs.length
      · have hlt2 : k < ys.length := by rw [← HL.out]; exact hlt
        obtain ⟨b1, o1, rfl, hb1, hx1⟩ := hr1 (by omega)
        obtain ⟨b2, o2, rfl, hb2, hx2⟩ := hr2 (by omega)
        have p0 := hx1 k _ (List.getElem?_eq_getElem hlt) 0 _ rfl
        have q0 := hx2 k _ (List.getElem?_eq_getElem hlt2) 0 _ rfl
        have p1 := hx1 k _ (List.getElem?_eq_getElem hlt) 1 _ rfl
        have q1 := hx2 k _ (List.getElem?_eq_getElem hlt2) 1 _ rfl
        have p2 := hx1 k _ (List.getElem?_eq_getElem hlt) 2 _ rfl
        have q2 := hx2 k _ (List.getElem?_eq_getElem hlt2) 2 _ rfl
        have p3 := hx1 k _ (List.getElem?_eq_getElem hlt) 3 _ rfl
        have q3 := hx2 k _ (List.getElem?_eq_getElem hlt2) 3 _ rfl
        clear hx1 hx2 hr1 hr2
        simp only [Nat.add_zero] at p0 q0
        have hne := fun W => neqIns W xs[k] ys[k]
        go_wp2
        go_quiet (fail)
        go_wp2
        · rename_i hd
          go_ret
          refine ⟨ret_bool ?_, ((Ext.refl w).drewN n).drewN _⟩
          have h3 : ¬ xs[k] = ys[k] := by simpa using hd
          exact (decide_eq_false (ne_of_at hlt hlt2 h3)).symm
        · rename_i hd
          have h3 : xs[k] = ys[k] := by simpa using hd
          exact ⟨⟨k + 1, by omega, by go_num, Lib.hid (take_succ_eq hlt hlt2 HT.out h3), _, rfl⟩, by simp [intOf]; omega⟩
      · go_wp2
        go_ret
        exact ⟨ret_bool (decide_eq_true (eq_of_take (by omega) HL.out HT.out)).symm, (Ext.refl _).drewN _⟩
  · have hlb : ((xs.length : Int) != (ys.length : Int)) = true := by simp; omega
    go_enter Try.func51, Try.ntmps51
    have HL := Lib.hid hl
    clear hl
    go_wp2
    go_ret
    exact ⟨ret_bool (decide_eq_false (fun h => HL.out (by rw [h]))).symm, Ext.refl _⟩

theorem neqValue (W : World) (x y : V3) : (binOp .neq 47 (.agg #[.int .i64 x.k, .int .i64 x.n, .string x.s]) (.agg #[.int .i64 y.k, .int .i64 y.n, .string y.s])).run Try.prog W = .ok (.bool (decide (x ≠ y))) W := by
  cases x; cases y
  simp [go_sem, V3.mk.injEq]
  repeat' split
  all_goals simp_all [bytes_ext]

set_option maxHeartbeats 1000000 in
theorem eqValue (v1 v2 : Value) (xs ys : List V3) (w : World) (h1 : Sl w 3 en3 v1 xs) (h2 : Sl w 3 en3 v2 ys) :
    Calls Try.prog 52 #[v1, v2] w fun e w' => e = .returned (.bool (decide (xs = ys))) ∧ Ext w w' := by
  obtain ⟨A1, c1, rfl, hc1, hm1, hr1⟩ := h1
  obtain ⟨A2, c2, rfl, hc2, hm2, hr2⟩ := h2
  by_cases hl : xs.length = ys.length
  · have hlb : ((xs.length : Int) != (ys.length : Int)) = false := by simp [hl]
    go_enter Try.func52, Try.ntmps52
    have HL := Lib.hid hl
    clear hl
    go_wp2
    go_loopw [13] (fun i wr => ∃ k : Nat, k ≤ xs.length ∧ i = .int .i64 k ∧ Hid (xs.take k = ys.take k) ∧ ∃ n, wr = w.drewN n) (fun i _ => xs.length - (intOf i).toNat)
    case atStart => exact ⟨0, Nat.zero_le _, rfl, Lib.hid rfl, 0, rfl⟩
    case round =>
      obtain ⟨k, hk, rfl, HT, n, rfl⟩ := hrel
      by_cases hlt : k < xs.length
      · have hlt2 : k < ys.length := by rw [← HL.out]; exact hlt
        obtain ⟨b1, o1, rfl, hb1, hx1⟩ := hr1 (by omega)
        obtain ⟨b2, o2, rfl, hb2, hx2⟩ := hr2 (by omega)
        have p0 := hx1 k _ (List.getElem?_eq_getElem hlt) 0 _ rfl
        have q0 := hx2 k _ (List.getElem?_eq_getElem hlt2) 0 _ rfl
        have p1 := hx1 k _ (List.getElem?_eq_getElem hlt) 1 _ rfl
        have q1 := hx2 k _ (List.getElem?_eq_getElem hlt2) 1 _ rfl
        have p2 := hx1 k _ (List.getElem?_eq_getElem hlt) 2 _ rfl
        have q2 := hx2 k _ (List.getElem?_eq_getElem hlt2) 2 _ rfl
        clear hx1 hx2 hr1 hr2
        simp only [Nat.add_zero] at p0 q0
        have hne := fun W => neqValue W xs[k] ys[k]
        go_wp2
        go_quiet (fail)
        go_wp2
        · rename_i hd
          go_ret
          refine ⟨ret_bool ?_, ((Ext.refl w).drewN n).drewN _⟩
          have h3 : ¬ xs[k] = ys[k] := by simpa using hd
          exact (decide_eq_false (ne_of_at hlt hlt2 h3)).symm
        · rename_i hd
          have h3 : xs[k] = ys[k] := by simpa using hd
          exact ⟨⟨k + 1, by omega, by go_num, Lib.hid (take_succ_eq hlt hlt2 HT.out h3), _, rfl⟩, by simp [intOf]; omega⟩
      · go_wp2
        go_ret
        exact ⟨ret_bool (decide_eq_true (eq_of_take (by omega) HL.out HT.out)).symm, (Ext.refl _).drewN _⟩
  · have hlb : ((xs.length : Int) != (ys.length : Int)) = true := by simp; omega
    go_enter Try.func52, Try.ntmps52
    have HL := Lib.hid hl
    clear hl
    go_wp2
    go_ret
    exact ⟨ret_bool (decide_eq_false (fun h => HL.out (by rw [h]))).symm, Ext.refl _⟩

theorem neqKey (W : World) (x y : V3) : (binOp .neq 48 (.agg #[.int .i64 x.k, .int .i64 x.n, .string x.s]) (.agg #[.int .i64 y.k, .int .i64 y.n, .string y.s])).run Try.prog W = .ok (.bool (decide (x ≠ y))) W := by
  cases x; cases y
  simp [go_sem, V3.mk.injEq]
  repeat' split
  all_goals simp_all [bytes_ext]

set_option maxHeartbeats 1000000 in
theorem eqKey (v1 v2 : Value) (xs ys : List V3) (w : World) (h1 : Sl w 3 en3 v1 xs) (h2 : Sl w 3 en3 v2 ys) :
    Calls Try.prog 53 #[v1, v2] w fun e w' => e = .returned (.bool (decide (xs = ys))) ∧ Ext w w' := by
  obtain ⟨A1, c1, rfl, hc1, hm1, hr1⟩ := h1
  obtain ⟨A2, c2, rfl, hc2, hm2, hr2⟩ := h2
  by_cases hl : xs.length = ys.length
  · have hlb : ((xs.length : Int) != (ys.length : Int)) = false := by simp [hl]
    go_enter Try.func53, Try.ntmps53
    have HL := Lib.hid hl
    clear hl
    go_wp2
    go_loopw [13] (fun i wr => ∃ k : Nat, k ≤ xs.length ∧ i = .int .i64 k ∧ Hid (xs.take k = ys.take k) ∧ ∃ n, wr = w.drewN n) (fun i _ => xs.length - (intOf i).toNat)
    case atStart => exact ⟨0, Nat.zero_le _, rfl, Lib.hid rfl, 0, rfl⟩
    case round =>
      obtain ⟨k, hk, rfl, HT, n, rfl⟩ := hrel
      by_cases hlt : k < xs.length
      · have hlt2 : k < ys.length := by rw [← HL.out]; exact hlt
        obtain ⟨b1, o1, rfl, hb1, hx1⟩ := hr1 (by omega)
        obtain ⟨b2, o2, rfl, hb2, hx2⟩ := hr2 (by omega)
        have p0 := hx1 k _ (List.getElem?_eq_getElem hlt) 0 _ rfl
        have q0 := hx2 k _ (List.getElem?_eq_getElem hlt2) 0 _ rfl
        have p1 := hx1 k _ (List.getElem?_eq_getElem hlt) 1 _ rfl
        have q1 := hx2 k _ (List.getElem?_eq_getElem hlt2) 1 _ rfl
        have p2 := hx1 k _ (List.getElem?_eq_getElem hlt) 2 _ rfl
        have q2 := hx2 k _ (List.getElem?_eq_getElem hlt2) 2 _ rfl
        clear hx1 hx2 hr1 hr2
        simp only [Nat.add_zero] at p0 q0
        have hne := fun W => neqKey W xs[k] ys[k]
        go_wp2
        go_quiet (fail)
        go_wp2
        · rename_i hd
          go_ret
          refine ⟨ret_bool ?_, ((Ext.refl w).drewN n).drewN _⟩
          have h3 : ¬ xs[k] = ys[k] := by simpa using hd
          exact (decide_eq_false (ne_of_at hlt hlt2 h3)).symm
        · rename_i hd
          have h3 : xs[k] = ys[k] := by simpa using hd
          exact ⟨⟨k + 1, by omega, by go_num, Lib.hid (take_succ_eq hlt hlt2 HT.out h3), _, rfl⟩, by simp [intOf]; omega⟩
      · go_wp2
        go_ret
        exact ⟨ret_bool (decide_eq_true (eq_of_take (by omega) HL.out HT.out)).symm, (Ext.refl _).drewN _⟩
  · have hlb : ((xs.length : Int) != (ys.length : Int)) = true := by simp; omega
    go_enter Try.func53, Try.ntmps53
    have HL := Lib.hid hl
    clear hl
    go_wp2
    go_ret
    exact ⟨ret_bool (decide_eq_false (fun h => HL.out (by rw [h]))).symm, Ext.refl _⟩

theorem neqGuard (W : World) (x y : I4) : (binOp .neq 61 (.agg #[.int .i64 x.a, .int .i64 x.b, .int .i64 x.c, .int .i64 x.d]) (.agg #[.int .i64 y.a, .int .i64 y.b, .int .i64 y.c, .int .i64 y.d])).run Try.prog W = .ok (.bool (decide (x ≠ y))) W := by
  cases x; cases y
  simp [go_sem, I4.mk.injEq]
  repeat' split
  all_goals simp_all

set_option maxHeartbeats 1000000 in
theorem eqGuard (v1 v2 : Value) (xs ys : List I4) (w : World) (h1 : Sl w 4 en4 v1 xs) (h2 : Sl w 4 en4 v2 ys) :
    Calls Try.prog 54 #[v1, v2] w fun e w' => e = .returned (.bool (decide (xs = ys))) ∧ Ext w w' := by
  obtain ⟨A1, c1, rfl, hc1, hm1, hr1⟩ := h1
  obtain ⟨A2, c2, rfl, hc2, hm2, hr2⟩ := h2
  by_cases hl : xs.length = ys.length
  · have hlb : ((xs.length : Int) != (ys.length : Int)) = false := by simp [hl]
    go_enter Try.func54, Try.ntmps54
    have HL := Lib.hid hl
    clear hl
    go_wp2
    go_loopw [13] (fun i wr => ∃ k : Nat, k ≤ xs.length ∧ i = .int .i64 k ∧ Hid (xs.take k = ys.take k) ∧ ∃ n, wr = w.drewN n) (fun i _ => xs.length - (intOf i).toNat)
    case atStart => exact ⟨0, Nat.zero_le _, rfl, Lib.hid rfl, 0, rfl⟩
    case round =>
      obtain ⟨k, hk, rfl, HT, n, rfl⟩ := hrel
      by_cases hlt : k < xs.length
      · have hlt2 : k < ys.length := by rw [← HL.out]; exact hlt
        obtain ⟨b1, o1, rfl, hb1, hx1⟩ := hr1 (by omega)
        obtain ⟨b2, o2, rfl, hb2, hx2⟩ := hr2 (by omega)
        have p0 := hx1 k _ (List.getElem?_eq_getElem hlt) 0 _ rfl
        have q0 := hx2 k _ (List.getElem?_eq_getElem hlt2) 0 _ rfl
        have p1 := hx1 k _ (List.getElem?_eq_getElem hlt) 1 _ rfl
        have q1 := hx2 k _ (List.getElem?_eq_getElem hlt2) 1 _ rfl
        have p2 := hx1 k _ (List.getElem?_eq_getElem hlt) 2 _ rfl
        have q2 := hx2 k _ (List.getElem?_eq_getElem hlt2) 2 _ rfl
        have p3 := hx1 k _ (List.getElem?_eq_getElem hlt) 3 _ rfl
        have q3 := hx2 k _ (List.getElem?_eq_getElem hlt2) 3 _ rfl
        clear hx1 hx2 hr1 hr2
        simp only [Nat.add_zero] at p0 q0
        have hne := fun W => neqGuard W xs[k] ys[k]
        go_wp2
        go_quiet (fail)
        go_wp2
        · rename_i hd
          go_ret
          refine ⟨ret_bool ?_, ((Ext.refl w).drewN n).drewN _⟩
          have h3 : ¬ xs[k] = ys[k] := by simpa using hd
          exact (decide_eq_false (ne_of_at hlt hlt2 h3)).symm
        · rename_i hd
          have h3 : xs[k] = ys[k] := by simpa using hd
          exact ⟨⟨k + 1, by omega, by go_num, Lib.hid (take_succ_eq hlt hlt2 HT.out h3), _, rfl⟩, by simp [intOf]; omega⟩
      · go_wp2
        go_ret
        exact ⟨ret_bool (decide_eq_true (eq_of_take (by omega) HL.out HT.out)).symm, (Ext.refl _).drewN _⟩
  · have hlb : ((xs.length : Int) != (ys.length : Int)) = true := by simp; omega
    go_enter Try.func54, Try.ntmps54
    have HL := Lib.hid hl
    clear hl
    go_wp2
    go_ret
    exact ⟨ret_bool (decide_eq_false (fun h => HL.out (by rw [h]))).symm, Ext.refl _⟩
end Go.Proofs.Ytagdompikjhnoaa
