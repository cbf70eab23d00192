/- The reference's keys: Index and Right of pantomimeref24. -/
import Derived.Test.YtagdompikjhnoaaKeyWalk
namespace Go.Proofs.Ytagdompikjhnoaa
open Go.RowKit

/-- what worth answers in base 10 -/
def worthL (b : Int) : Int := if 48 ≤ b ∧ b ≤ 57 then b - 48 else -1

set_option maxHeartbeats 1000000 in
theorem worth_any (b : Int) (h0 : 0 ≤ b) (h1 : b ≤ 255) (w : World) : Calls Try.prog 86 #[.int .u8 b, .int .i64 10] w fun e w' => e = .returned (.int .i64 (worthL b)) ∧ w' = w := by
  have key : (b < 48) ∨ (48 ≤ b ∧ b ≤ 57) ∨ (57 < b ∧ b < 65) ∨ (65 ≤ b ∧ b ≤ 70) ∨ (70 < b ∧ b < 97) ∨ (97 ≤ b ∧ b ≤ 102) ∨ (102 < b) := by omega
  have e1 : b < 48 ∨ 57 < b → worthL b = -1 := fun h => by unfold worthL; rw [if_neg (by omega)]
  have e2 : 48 ≤ b ∧ b ≤ 57 → worthL b = b - 48 := fun h => by unfold worthL; rw [if_pos h]
  have E1 := Lib.hid e1
  have E2 := Lib.hid e2
  clear e1 e2
  rcases key with h | ⟨h, h'⟩ | ⟨h, h'⟩ | ⟨h, h'⟩ | ⟨h, h'⟩ | ⟨h, h'⟩ | h
  all_goals
    go_enter Try.func86, Try.ntmps86
    go_wp2
    go_ret
    first | (rw [E1.out (by omega)]; exact ⟨rfl, rfl⟩) | (rw [E2.out (by omega)]; exact ⟨rfl, rfl⟩)

/-- what Count answers at a short text in base 10 -/
def CountPost (s : ByteArray) (w : World) (e : Ending) (w' : World) : Prop := e = .returned (.tuple #[.int .i64 (if s.data.toList.all isD then dv s.data.toList else 0), .bool (s.data.toList.all isD)]) ∧ w' = w

set_option maxHeartbeats 1000000 in
set_option maxRecDepth 100000 in
theorem count_any (s : ByteArray) (w : World) (h1 : s.toList.isEmpty = false) (_h1' : ¬ s.toList = []) (h2 : s.size ≤ 10) :
    Calls Try.prog 73 #[.string s, .int .i64 10] w (CountPost s w) := by
  go_enter Try.func73, Try.ntmps73
  go_wp2_with fail
  go_loop [6, 7] (fun n i => ∃ k : Nat, k ≤ s.size ∧ i = .int .i64 k ∧ n = .int .i64 (dv (s.data.toList.take k)) ∧ Hid ((s.data.toList.take k).all isD = true)) (fun _ i => s.size - (intOf i).toNat)
  case atStart => exact ⟨0, Nat.zero_le _, rfl, rfl, Lib.hid rfl⟩
  case round =>
    obtain ⟨k, hk, rfl, rfl, HA⟩ := hrel
    by_cases hlt : k < s.size
    · obtain ⟨b1, b2⟩ := dv_le9 (s.data.toList.take k) (by simp; omega) HA.out
      have hsn := Lib.hid (take_snoc s k hlt)
      have hb : (s[k].toNat : Int) ≤ 255 := by have := s[k].toNat_lt; omega
      by_cases hd : 48 ≤ (s[k].toNat : Int) ∧ (s[k].toNat : Int) ≤ 57
      · obtain ⟨g1, g2⟩ := hd
        have HW := Lib.hid (show worthL (s[k].toNat : Int) = (s[k].toNat : Int) - 48 by unfold worthL; rw [if_pos ⟨g1, g2⟩])
        go_wp2_with (go_at_call 86; refine (worth_any _ (by omega) (by omega) _).mono ?_; rintro e w1 ⟨rfl, rfl⟩; rw [HW.out])
        exact ⟨⟨k + 1, by omega, by go_num, by rw [hsn.out, dv_snoc, Int.mul_comm], Lib.hid (by rw [hsn.out, all_snoc, HA.out]; simp [isD]; omega)⟩, by simp [intOf]; omega⟩
      · have HW := Lib.hid (show worthL (s[k].toNat : Int) = -1 by unfold worthL; rw [if_neg hd])
        have hbad := Lib.hid (not_all_of s k hlt (by simp only [isD, Bool.and_eq_false_iff, decide_eq_false_iff_not]; omega))
        clear hd
        go_wp2_with (go_at_call 86; refine (worth_any _ (by omega) (by omega) _).mono ?_; rintro e w1 ⟨rfl, rfl⟩; rw [HW.out])
        go_ret2
        unfold CountPost
        rw [hbad.out]
        exact ⟨rfl, rfl⟩
    · have htk : s.data.toList.take k = s.data.toList := by rw [List.take_of_length_le (by simp; omega)]
      have HTK := Lib.hid htk
      clear htk
      go_wp2_with fail
      go_ret2
      unfold CountPost
      have ha := HA.out
      rw [HTK.out] at ha
      rw [ha, HTK.out]
      refine ⟨?_, rfl⟩
      simp

set_option maxHeartbeats 1000000 in
set_option maxRecDepth 100000 in
theorem refIndex_open (s : ByteArray) (w : World) (hs : Hid (shut s.data.toList = false)) (h1 : s.toList.isEmpty = false) (h1' : ¬ s.toList = []) (h2 : s.size ≤ 10) (h0 : 0 < s.size)
    (h3 : ((s[0].toNat : Int) == 48) = false ∨ ((s[0].toNat : Int) == 48) = true ∧ s.size ≤ 1) :
    Calls Try.prog 64 #[.string s] w (IdxPost (idx s.data.toList) w) := by
  have hcnt := count_any s w h1 h1' h2
  have HCN := Lib.hid hcnt
  clear hcnt
  cases ha : s.data.toList.all isD with
  | false =>
    have HI := Lib.hid (show idx s.data.toList = (0, false) by rw [idx_of hs.out, ha]; rfl)
    have HA := Lib.hid ha
    clear ha
    rcases h3 with h3 | ⟨h3, h4⟩
    all_goals
      go_enter Try.func64, Try.ntmps64
      go_wp2_with fail
      refine HCN.out.mono ?_
      rintro e w1 ⟨rfl, rfl⟩
      rw [HA.out]
      go_wp2_with fail
      go_ret2
      unfold IdxPost
      rw [HI.out]
      exact ⟨rfl, rfl⟩
  | true =>
    obtain ⟨b1, b2⟩ := dv_le s.data.toList (by simp; omega) ha
    have HA := Lib.hid ha
    clear ha
    by_cases hg : dv s.data.toList ≤ 4294967294
    · have HI := Lib.hid (idx_yes hs.out HA.out hg)
      rcases h3 with h3 | ⟨h3, h4⟩
      all_goals
        go_enter Try.func64, Try.ntmps64
        go_wp2_with fail
        refine HCN.out.mono ?_
        rintro e w1 ⟨rfl, rfl⟩
        rw [HA.out, if_pos rfl]
        go_wp2_with fail
        go_ret2
        unfold IdxPost
        rw [HI.out]
        exact ⟨rfl, rfl⟩
    · have HI := Lib.hid (idx_big hs.out (by omega))
      rcases h3 with h3 | ⟨h3, h4⟩
      all_goals
        go_enter Try.func64, Try.ntmps64
        go_wp2_with fail
        refine HCN.out.mono ?_
        rintro e w1 ⟨rfl, rfl⟩
        rw [HA.out, if_pos rfl]
        go_wp2_with fail
        go_ret2
        unfold IdxPost
        rw [HI.out]
        exact ⟨rfl, rfl⟩

set_option maxHeartbeats 1000000 in
theorem refIndex_shut (s : ByteArray) (w : World) (hs : s.toList.isEmpty = true ∧ s.toList = [] ∨ s.toList.isEmpty = false ∧ ¬ s.toList = [] ∧ (10 < s.size ∨ s.size ≤ 10 ∧ ∃ _ : 0 < s.size, ((s[0].toNat : Int) == 48) = true ∧ 1 < s.size)) :
    Calls Try.prog 64 #[.string s] w (IdxPost (0, false) w) := by
  rcases hs with ⟨h1, h2⟩ | ⟨h1, h2, h3 | ⟨h3, h0, h4, h5⟩⟩
  all_goals
    go_enter Try.func64, Try.ntmps64
    go_wp2_with fail
    go_ret2
    exact ⟨rfl, rfl⟩

theorem refIndex_any (s : ByteArray) (w : World) : Calls Try.prog 64 #[.string s] w (IdxPost (idx s.data.toList) w) := by
  rcases shut_cases s with ⟨hs, h⟩ | ⟨hs, h1, h1', h2, h0, h3⟩
  · have : idx s.data.toList = (0, false) := by unfold idx; rw [hs]; rfl
    rw [this]
    exact refIndex_shut s w h
  · exact refIndex_open s w (Lib.hid hs) h1 h1' h2 h0 h3

set_option maxHeartbeats 1000000 in
set_option maxRecDepth 100000 in
theorem refKeyRight_any (k : V3) (w : World) : Calls Try.prog 41 #[keyV k] w fun e w' => e = .returned (.bool (keyB k)) ∧ Ext w w' := by
  unfold keyV
  obtain ⟨kk, kn, ks⟩ := k
  go_enter Try.func41, Try.ntmps41
  go_wp2_with (go_at_call 64; refine (refIndex_any _ _).mono ?_; rintro e w1 ⟨rfl, rfl⟩)
  all_goals
    go_ret
    refine ⟨rb ?_, (Ext.refl w).alloc _⟩
    simp_all [keyB, ByteArray.toList_eq]
  all_goals (intros; first | omega | (exfalso; omega))
end Go.Proofs.Ytagdompikjhnoaa
