/- key.Index and key.Right: what they answer. -/
import Derived.Test.YtmiecljgcbfklaaRows
import Derived.Test.YtmiecljgcbfklaaKeySpec
namespace Go.Proofs.Ytmiecljgcbfklaa
open Go.RowKit

def IdxPost (r : Int × Bool) (w : World) (e : Ending) (w' : World) : Prop := e = .returned (.tuple #[.int .i64 r.1, .bool r.2]) ∧ w' = w

theorem idx_of {s : ByteArray} (h : shut s.data.toList = false) : idx s.data.toList = if s.data.toList.all isD && decide (dv s.data.toList ≤ 4294967294) then (dv s.data.toList, true) else (0, false) := by
  unfold idx; rw [h]; rfl
theorem idx_bad {s : ByteArray} (h : shut s.data.toList = false) (k : Nat) (hk : k < s.size) (hd : isD s[k] = false) : idx s.data.toList = (0, false) := by
  rw [idx_of h, not_all_of s k hk hd]; rfl
theorem idx_big {s : ByteArray} (h : shut s.data.toList = false) (hg : 4294967294 < dv s.data.toList) : idx s.data.toList = (0, false) := by
  rw [idx_of h, decide_eq_false (by omega : ¬ dv s.data.toList ≤ 4294967294)]; simp
theorem idx_yes {s : ByteArray} (h : shut s.data.toList = false) (ha : s.data.toList.all isD = true) (hg : dv s.data.toList ≤ 4294967294) : idx s.data.toList = (dv s.data.toList, true) := by
  rw [idx_of h, ha, decide_eq_true hg]; rfl

set_option maxHeartbeats 1000000 in
set_option maxRecDepth 100000 in
theorem index_open (s : ByteArray) (w : World) (hs : Hid (shut s.data.toList = false)) (h1 : s.toList.isEmpty = false) (_h1' : ¬ s.toList = []) (h2 : s.size ≤ 10) (h0 : 0 < s.size)
    (h3 : ((s[0].toNat : Int) == 48) = false ∨ ((s[0].toNat : Int) == 48) = true ∧ s.size ≤ 1) :
    Calls Try.prog 25 #[.string s] w (IdxPost (idx s.data.toList) w) := by
  rcases h3 with h3 | ⟨h3, h4⟩
  all_goals
    go_enter Try.func25, Try.ntmps25
    go_wp2
    go_loop [4, 25] (fun n i => ∃ k : Nat, k ≤ s.size ∧ i = .int .i64 k ∧ n = .int .i64 (dv (s.data.toList.take k)) ∧ Hid ((s.data.toList.take k).all isD = true)) (fun _ i => s.size - (intOf i).toNat)
    case atStart => exact ⟨0, Nat.zero_le _, rfl, rfl, Lib.hid rfl⟩
    case round =>
      obtain ⟨k, hk, rfl, rfl, HA⟩ := hrel
      by_cases hlt : k < s.size
      · obtain ⟨b1, b2⟩ := dv_le9 (s.data.toList.take k) (by simp; omega) HA.out
        have hsn := Lib.hid (take_snoc s k hlt)
        have hb : (s[k].toNat : Int) ≤ 255 := by have := s[k].toNat_lt; omega
        go_wp2
        · have hd : isD s[k] = false := by simp only [isD, Bool.and_eq_false_iff, decide_eq_false_iff_not]; omega
          go_ret2
          unfold IdxPost
          rw [idx_bad hs.out k hlt hd]
          exact ⟨rfl, rfl⟩
        · exact ⟨⟨k + 1, by omega, by go_num, by rw [hsn.out, dv_snoc], Lib.hid (by rw [hsn.out, all_snoc, HA.out]; simp [isD]; omega)⟩, by simp [intOf]; omega⟩
        · have hd : isD s[k] = false := by simp only [isD, Bool.and_eq_false_iff, decide_eq_false_iff_not]; omega
          go_ret2
          unfold IdxPost
          rw [idx_bad hs.out k hlt hd]
          exact ⟨rfl, rfl⟩
      · have hkk : k = s.size := by omega
        have HK := Lib.hid hkk
        clear hkk
        obtain ⟨b1, b2⟩ := dv_le (s.data.toList.take k) (by simp; omega) HA.out
        have htk : s.data.toList.take k = s.data.toList := by rw [List.take_of_length_le (by simp; omega)]
        have HTK := Lib.hid htk
        clear htk
        go_wp2
        · have hg : 4294967294 < dv (s.data.toList.take k) := by assumption
          rw [HTK.out] at hg
          go_ret2
          unfold IdxPost
          rw [idx_big hs.out hg]
          exact ⟨rfl, rfl⟩
        · have hg : dv (s.data.toList.take k) ≤ 4294967294 := by assumption
          have ha := HA.out
          rw [HTK.out] at hg ha
          go_ret2
          unfold IdxPost
          rw [idx_yes hs.out ha hg, HTK.out]
          exact ⟨rfl, rfl⟩

theorem shut_cases (s : ByteArray) : (shut s.data.toList = true ∧ (s.toList.isEmpty = true ∧ s.toList = [] ∨ s.toList.isEmpty = false ∧ ¬ s.toList = [] ∧ (10 < s.size ∨ s.size ≤ 10 ∧ ∃ _ : 0 < s.size, ((s[0].toNat : Int) == 48) = true ∧ 1 < s.size))) ∨
    (shut s.data.toList = false ∧ s.toList.isEmpty = false ∧ ¬ s.toList = [] ∧ s.size ≤ 10 ∧ ∃ _ : 0 < s.size, (((s[0].toNat : Int) == 48) = false ∨ ((s[0].toNat : Int) == 48) = true ∧ s.size ≤ 1)) := by
  rw [ByteArray.toList_eq]
  obtain ⟨⟨l⟩⟩ := s
  cases l with
  | nil => exact .inl ⟨rfl, .inl ⟨rfl, rfl⟩⟩
  | cons x t =>
    have hsz : (⟨⟨x :: t⟩⟩ : ByteArray).size = t.length + 1 := rfl
    have hx : ((x.toNat : Int) == 48) = (x == 48) := by
      rw [Bool.eq_iff_iff, beq_iff_eq, beq_iff_eq, ← UInt8.toNat_inj]
      show (x.toNat : Int) = 48 ↔ x.toNat = 48
      omega
    have hsh : shut (x :: t) = (decide (10 < t.length + 1) || ((x == 48) && decide (1 < t.length + 1))) := by simp [shut]
    by_cases h10 : 10 < t.length + 1
    · exact .inl ⟨by rw [hsh, decide_eq_true h10]; rfl, .inr ⟨rfl, by simp, .inl (by rw [hsz]; exact h10)⟩⟩
    · cases hz : x == 48 with
      | false => exact .inr ⟨by rw [hsh, hz, decide_eq_false h10]; rfl, rfl, by simp, by rw [hsz]; omega, by rw [hsz]; omega, .inl (hx.trans hz)⟩
      | true =>
        by_cases h1 : 1 < t.length + 1
        · exact .inl ⟨by rw [hsh, hz, decide_eq_true h1]; simp, .inr ⟨rfl, by simp, .inr ⟨by rw [hsz]; omega, by rw [hsz]; omega, hx.trans hz, by rw [hsz]; exact h1⟩⟩⟩
        · exact .inr ⟨by rw [hsh, hz, decide_eq_false h10, decide_eq_false h1]; rfl, rfl, by simp, by rw [hsz]; omega, by rw [hsz]; omega, .inr ⟨hx.trans hz, by rw [hsz]; omega⟩⟩

set_option maxHeartbeats 1000000 in
theorem index_shut (s : ByteArray) (w : World) (hs : s.toList.isEmpty = true ∧ s.toList = [] ∨ s.toList.isEmpty = false ∧ ¬ s.toList = [] ∧ (10 < s.size ∨ s.size ≤ 10 ∧ ∃ _ : 0 < s.size, ((s[0].toNat : Int) == 48) = true ∧ 1 < s.size)) :
    Calls Try.prog 25 #[.string s] w (IdxPost (0, false) w) := by
  rcases hs with ⟨h1, h2⟩ | ⟨h1, h2, h3 | ⟨h3, h0, h4, h5⟩⟩
  all_goals
    go_enter Try.func25, Try.ntmps25
    go_wp2
    go_ret2
    exact ⟨rfl, rfl⟩

theorem index_any (s : ByteArray) (w : World) : Calls Try.prog 25 #[.string s] w (IdxPost (idx s.data.toList) w) := by
  rcases shut_cases s with ⟨hs, h⟩ | ⟨hs, h1, h1', h2, h0, h3⟩
  · have : idx s.data.toList = (0, false) := by unfold idx; rw [hs]; rfl
    rw [this]
    exact index_shut s w h
  · exact index_open s w (Lib.hid hs) h1 h1' h2 h0 h3

/-- api.Key as a value -/
def keyV (k : V3) : Value := .agg #[.int .i64 k.k, .int .i64 k.n, .string k.s]

theorem rb {a b : Bool} (h : a = b) : Ending.returned (.bool a) = .returned (.bool b) := by rw [h]

set_option maxHeartbeats 1000000 in
set_option maxRecDepth 100000 in
theorem keyRight_any (k : V3) (w : World) : Calls Try.prog 23 #[keyV k] w fun e w' => e = .returned (.bool (keyB k)) ∧ Ext w w' := by
  unfold keyV
  obtain ⟨kk, kn, ks⟩ := k
  go_enter Try.func23, Try.ntmps23
  go_wp2_with (go_at_call 25; refine (index_any _ _).mono ?_; rintro e w1 ⟨rfl, rfl⟩)
  all_goals
    go_ret
    refine ⟨rb ?_, (Ext.refl w).alloc _⟩
    simp_all [keyB, ByteArray.toList_eq]
  all_goals (intros; first | omega | (exfalso; omega))
end Go.Proofs.Ytmiecljgcbfklaa
