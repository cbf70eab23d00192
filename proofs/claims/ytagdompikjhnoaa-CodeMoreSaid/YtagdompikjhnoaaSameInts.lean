/- SameInts of pantomimeref15, and leads of the reference. -/
import Derived.Test.YtagdompikjhnoaaPlacesLaw
import Derived.Test.YtagdompikjhnoaaSame
namespace Go.Proofs.Ytagdompikjhnoaa
open Go.RowKit

set_option maxHeartbeats 1000000 in
theorem sameInts_any (v1 v2 : Value) (xs ys : List Int) (w : World) (h1 : Sl w 1 en1 v1 xs) (h2 : Sl w 1 en1 v2 ys) :
    Calls Try.prog 20 #[v1, v2] w fun e w' => e = .returned (.bool (decide (xs = ys))) ∧ Ext w w' := by
  obtain ⟨A1, c1, rfl, hc1, hm1, hr1⟩ := h1
  obtain ⟨A2, c2, rfl, hc2, hm2, hr2⟩ := h2
  by_cases hl : xs.length = ys.length
  · have hlb : ((xs.length : Int) != (ys.length : Int)) = false := by simp [hl]
    have HL := Lib.hid hl
    clear hl
    go_enter Try.func20, Try.ntmps20
    go_wp2_with fail
    go_loopw [5] (fun i wr => ∃ k : Nat, k ≤ xs.length ∧ i = .int .i64 k ∧ Hid (xs.take k = ys.take k) ∧ ∃ n, wr = w.drewN n) (fun i _ => xs.length - (intOf i).toNat)
    case atStart => exact ⟨0, Nat.zero_le _, rfl, Lib.hid rfl, 0, rfl⟩
    case round =>
      obtain ⟨k, hk, rfl, HT, n, rfl⟩ := hrel
      by_cases hlt : k < xs.length
      · have hlt2 : k < ys.length := by rw [← HL.out]; exact hlt
        obtain ⟨b1, o1, rfl, hb1, hx1⟩ := hr1 (by omega)
        obtain ⟨b2, o2, rfl, hb2, hx2⟩ := hr2 (by omega)
        have p0 : w.cell? ⟨b1, o1 + k, none⟩ = some (.int .i64 xs[k]) := by
          have := hx1 k _ (List.getElem?_eq_getElem hlt) 0 _ rfl
          simpa using this
        have q0 : w.cell? ⟨b2, o2 + k, none⟩ = some (.int .i64 ys[k]) := by
          have := hx2 k _ (List.getElem?_eq_getElem hlt2) 0 _ rfl
          simpa using this
        clear hx1 hx2 hr1 hr2
        by_cases he : xs[k] = ys[k]
        · have hne : (xs[k] != ys[k]) = false := by simp [he]
          have HQ := Lib.hid he
          clear he
          go_wp2
          go_quiet (fail)
          go_wp2
          exact ⟨⟨k + 1, by omega, by go_num, Lib.hid (take_succ_eq hlt hlt2 HT.out HQ.out), _, rfl⟩, by simp [intOf]; omega⟩
        · have hne : (xs[k] != ys[k]) = true := by simp [he]
          have HQ := Lib.hid he
          clear he
          go_wp2
          go_quiet (fail)
          go_wp2
          go_ret
          exact ⟨ret_bool (decide_eq_false (ne_of_at hlt hlt2 HQ.out)).symm, ((Ext.refl w).drewN n).drewN _⟩
      · go_wp2
        go_ret
        exact ⟨ret_bool (decide_eq_true (eq_of_take (by omega) HL.out HT.out)).symm, (Ext.refl _).drewN _⟩
  · have hlb : ((xs.length : Int) != (ys.length : Int)) = true := by simp; omega
    have HL := Lib.hid hl
    clear hl
    go_enter Try.func20, Try.ntmps20
    go_wp2_with fail
    go_ret
    exact ⟨ret_bool (decide_eq_false (fun h => HL.out (by rw [h]))).symm, Ext.refl _⟩
end Go.Proofs.Ytagdompikjhnoaa
