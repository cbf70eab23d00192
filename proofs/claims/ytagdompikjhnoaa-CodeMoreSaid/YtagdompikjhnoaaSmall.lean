/- small of law48: it answers; where it answers true, the lists are short. -/
import Derived.Test.YtagdompikjhnoaaMem
import Derived.Test.YtagdompikjhnoaaRows
namespace Go.Proofs.Ytagdompikjhnoaa
open Go.RowKit

def Short (c : CodeD) : Prop := c.ins.length ≤ 200 ∧ c.pool.length ≤ 200 ∧ c.keys.length ≤ 200 ∧ c.guards.length ≤ 200
def SmallPost (c : CodeD) (w : World) (e : Ending) (w' : World) : Prop := ∃ b, e = .returned (.bool b) ∧ (b = true → Short c) ∧ Ext w w'

set_option maxHeartbeats 2000000 in
set_option maxRecDepth 100000 in
theorem small_any (v : Value) (c : CodeD) (w : World) (h : IsCode w v c) :
    Calls Try.prog 15 #[v] w (SmallPost c w) := by
  obtain ⟨vi, vp, vk, vg, rfl, h1, h2, h3, h4⟩ := h
  obtain ⟨A1, c1, rfl, hc1, hm1, -⟩ := h1
  obtain ⟨A2, c2, rfl, hc2, hm2, hr2⟩ := h2
  obtain ⟨A3, c3, rfl, hc3, hm3, hr3⟩ := h3
  obtain ⟨A4, c4, rfl, hc4, hm4, -⟩ := h4
  have hE := (Ext.refl w).alloc (.cells #[.string c.name, .int .i64 c.kind, .int .i64 c.length, .int .i64 c.regs, .slice A1 c.ins.length c1, .slice A2 c.pool.length c2, .slice A3 c.keys.length c3, .slice A4 c.guards.length c4] 31)
  have hB := Blk.new w 31 #[.string c.name, .int .i64 c.kind, .int .i64 c.length, .int .i64 c.regs, .slice A1 c.ins.length c1, .slice A2 c.pool.length c2, .slice A3 c.keys.length c3, .slice A4 c.guards.length c4]
  have HE := Lib.hid hE
  have HB := Lib.hid hB
  clear hE hB
  by_cases hs : Short c
  · obtain ⟨s1, s2, s3, s4⟩ := id hs
    have HS := Lib.hid hs
    clear hs
    go_enter Try.func15, Try.ntmps15
    go_wp2_with fail
    generalize w.alloc (.cells #[.string c.name, .int .i64 c.kind, .int .i64 c.length, .int .i64 c.regs, .slice A1 c.ins.length c1, .slice A2 c.pool.length c2, .slice A3 c.keys.length c3, .slice A4 c.guards.length c4] 31) = W at HE HB ⊢
    have cB := HB.out.cells
    go_loopw [3, 4] (fun n i wr => ∃ (k : Nat) (m : Int), k ≤ c.pool.length ∧ i = .int .i64 k ∧ n = .int .i64 m ∧ wr = W) (fun _ i _ => c.pool.length - (intOf i).toNat)
    case atStart => exact ⟨0, _, Nat.zero_le _, rfl, rfl, rfl⟩
    case round =>
      obtain ⟨k, m, hk, rfl, rfl, rfl⟩ := hrel
      by_cases hlt : k < c.pool.length
      · obtain ⟨b, o, rfl, hb, hx⟩ := hr2 (by omega)
        have p2 : wr.cell? ⟨b, o + k * 3 + 2, none⟩ = some (.string c.pool[k].s) := (HE.out.cell (p := ⟨b, _, none⟩) hb).trans (hx k _ (List.getElem?_eq_getElem hlt) 2 _ rfl)
        clear hx hr2 hr3
        go_wp2
        · go_ret
          exact ⟨false, rfl, fun h => (by cases h), HE.out⟩
        · exact ⟨⟨k + 1, _, by omega, by go_num, rfl, trivial⟩, by simp [intOf]; omega⟩
      · go_wp2
        go_loopw [3, 5] (fun n i wq => ∃ (k : Nat) (m : Int), k ≤ c.keys.length ∧ i = .int .i64 k ∧ n = .int .i64 m ∧ wq = wr) (fun _ i _ => c.keys.length - (intOf i).toNat)
        case atStart => exact ⟨0, _, Nat.zero_le _, rfl, rfl, rfl⟩
        case round =>
          obtain ⟨k2, m2, hk2, rfl, rfl, rfl⟩ := hrel
          by_cases hlt2 : k2 < c.keys.length
          · obtain ⟨b, o, rfl, hb, hx⟩ := hr3 (by omega)
            have p2 : wr.cell? ⟨b, o + k2 * 3 + 2, none⟩ = some (.string c.keys[k2].s) := (HE.out.cell (p := ⟨b, _, none⟩) hb).trans (hx k2 _ (List.getElem?_eq_getElem hlt2) 2 _ rfl)
            clear hx hr2 hr3
            go_wp2
            · go_ret
              exact ⟨false, rfl, fun h => (by cases h), HE.out⟩
            · exact ⟨⟨k2 + 1, _, by omega, by go_num, rfl, trivial⟩, by simp [intOf]; omega⟩
          · go_wp2
            go_ret
            exact ⟨true, rfl, fun _ => HS.out, HE.out⟩
  · have key : 200 < c.ins.length ∨ c.ins.length ≤ 200 ∧ (200 < c.pool.length ∨ c.pool.length ≤ 200 ∧ (200 < c.keys.length ∨ c.keys.length ≤ 200 ∧ 200 < c.guards.length)) := by
      unfold Short at hs; omega
    clear hs hr2 hr3
    rcases key with h | ⟨g1, h | ⟨g2, h | ⟨g3, h⟩⟩⟩
    all_goals
      go_enter Try.func15, Try.ntmps15
      go_wp2_with fail
      go_ret
      exact ⟨false, rfl, fun h => (by cases h), HE.out⟩
end Go.Proofs.Ytagdompikjhnoaa
