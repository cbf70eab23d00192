/- leads and Targets of the reference. -/
import Derived.Test.YtagdompikjhnoaaSameInts
namespace Go.Proofs.Ytagdompikjhnoaa
open Go.RowKit

def jIs (x : I4) (n : Int) : Bool := match pt x.a with
  | [b0, b1, b2] => ((b0.toNat : Int) == 106) && (x.b == n) || ((b1.toNat : Int) == 106) && (x.c == n) || ((b2.toNat : Int) == 106) && (x.d == n)
  | _ => false
def leadsB (c : CodeD) (n : Int) : Bool := (c.ins.any fun x => jIs x n) || (c.guards.any fun g => g.c == n)

theorem opt3 (p q : Bool) : p = false ∨ p = true ∧ q = false ∨ p = true ∧ q = true := by cases p <;> cases q <;> simp
theorem any_false_take {α : Type} {p : α → Bool} {l : List α} {k : Nat} (h : k < l.length) (h1 : (l.take k).any p = false) (h2 : p l[k] = false) : (l.take (k + 1)).any p = false := by
  rw [any_snoc p h, h1, h2]; rfl
theorem any_true_at {α : Type} {p : α → Bool} {l : List α} {k : Nat} (h : k < l.length) (h2 : p l[k] = true) : l.any p = true := List.any_eq_true.2 ⟨_, List.getElem_mem h, h2⟩

set_option maxHeartbeats 8000000 in
set_option maxRecDepth 100000 in
theorem leads_any (v : Value) (c : CodeD) (n : Int) (w : World) (h : IsCode w v c) :
    Calls Try.prog 47 #[v, .int .i64 n] w fun e w' => e = .returned (.bool (leadsB c n)) ∧ Ext w w' := by
  obtain ⟨vi, vp, vk, vg, rfl, ⟨A1, c1, rfl, hc1, hm1, hr1⟩, ⟨A2, c2, rfl, -⟩, ⟨A3, c3, rfl, -⟩, ⟨A4, c4, rfl, hc4, hm4, hr4⟩⟩ := h
  have HE : Hid (Ext w (w.alloc (.cells #[.string c.name, .int .i64 c.kind, .int .i64 c.length, .int .i64 c.regs, .slice A1 c.ins.length c1, .slice A2 c.pool.length c2, .slice A3 c.keys.length c3, .slice A4 c.guards.length c4] 31))) := Lib.hid ((Ext.refl w).alloc _)
  have HB := Lib.hid (Blk.new w 31 #[.string c.name, .int .i64 c.kind, .int .i64 c.length, .int .i64 c.regs, .slice A1 c.ins.length c1, .slice A2 c.pool.length c2, .slice A3 c.keys.length c3, .slice A4 c.guards.length c4])
  go_enter Try.func47, Try.ntmps47
  go_wp2_with fail
  generalize w.alloc (.cells #[.string c.name, .int .i64 c.kind, .int .i64 c.length, .int .i64 c.regs, .slice A1 c.ins.length c1, .slice A2 c.pool.length c2, .slice A3 c.keys.length c3, .slice A4 c.guards.length c4] 31) = W at HE HB ⊢
  go_loopw [5] (fun i wr => ∃ k : Nat, k ≤ c.ins.length ∧ i = .int .i64 k ∧ Hid ((c.ins.take k).any (fun x => jIs x n) = false) ∧ Ext W wr) (fun i _ => c.ins.length - (intOf i).toNat)
  case atStart => exact ⟨0, Nat.zero_le _, rfl, Lib.hid rfl, Ext.refl W⟩
  case round =>
    obtain ⟨k, hk, rfl, HT, hE⟩ := hrel
    have HF := Lib.hid (HE.out.trans hE)
    have HB2 := Lib.hid (HB.out.ext hE)
    have HG := Lib.hid hE
    have cB := HB2.out.cells
    clear hE
    by_cases hlt : k < c.ins.length
    · obtain ⟨b, o, rfl, hb, hx⟩ := hr1 (by omega)
      have p0 : wr.cell? ⟨b, o + k * 4, none⟩ = some (.int .i64 c.ins[k].a) := (HF.out.cell (p := ⟨b, _, none⟩) hb).trans (hx k _ (List.getElem?_eq_getElem hlt) 0 _ rfl)
      have hw : b < wr.heap.size := Nat.lt_of_lt_of_le hb HF.out.size
      clear hr1 hr4
      go_wp2_with fail
      refine (rparts_any _ _).mono ?_
      rintro e w1 ⟨rfl, hb1⟩
      have HF1 := Lib.hid (HF.out.trans hb1)
      have HG1 := Lib.hid (HG.out.trans hb1)
      have cB1 := (HB2.out.ext hb1).cells
      have p1 : w1.cell? ⟨b, o + k * 4 + 1, none⟩ = some (.int .i64 c.ins[k].b) := (HF1.out.cell (p := ⟨b, _, none⟩) hb).trans (hx k _ (List.getElem?_eq_getElem hlt) 1 _ rfl)
      have p2 : w1.cell? ⟨b, o + k * 4 + 2, none⟩ = some (.int .i64 c.ins[k].c) := (HF1.out.cell (p := ⟨b, _, none⟩) hb).trans (hx k _ (List.getElem?_eq_getElem hlt) 2 _ rfl)
      have p3 : w1.cell? ⟨b, o + k * 4 + 3, none⟩ = some (.int .i64 c.ins[k].d) := (HF1.out.cell (p := ⟨b, _, none⟩) hb).trans (hx k _ (List.getElem?_eq_getElem hlt) 3 _ rfl)
      clear hb1 cB p0 hx
      rcases pt_three c.ins[k].a with hp | ⟨b0, b1, b2, hp⟩
      · have hj : jIs c.ins[k] n = false := by unfold jIs; rw [hp]
        have HJ := Lib.hid (any_false_take hlt HT.out hj)
        rw [hp]
        clear hp hj
        go_wp2_with fail
        exact ⟨⟨k + 1, by omega, by go_num, HJ, HG1.out⟩, by simp [intOf]; omega⟩
      · have hj : jIs c.ins[k] n = (((b0.toNat : Int) == 106) && (c.ins[k].b == n) || ((b1.toNat : Int) == 106) && (c.ins[k].c == n) || ((b2.toNat : Int) == 106) && (c.ins[k].d == n)) := by unfold jIs; rw [hp]
        rw [hp]
        clear hp
        cases hv : jIs c.ins[k] n
        all_goals rcases opt3 ((b0.toNat : Int) == 106) (c.ins[k].b == n) with a0 | ⟨a0, e0⟩ | ⟨a0, e0⟩
        all_goals rcases opt3 ((b1.toNat : Int) == 106) (c.ins[k].c == n) with a1 | ⟨a1, e1⟩ | ⟨a1, e1⟩
        all_goals rcases opt3 ((b2.toNat : Int) == 106) (c.ins[k].d == n) with a2 | ⟨a2, e2⟩ | ⟨a2, e2⟩
        all_goals
          rw [hv] at hj
          (first | rw [a0, e0] at hj | rw [a0] at hj)
          (first | rw [a1, e1] at hj | rw [a1] at hj)
          (first | rw [a2, e2] at hj | rw [a2] at hj)
        all_goals try (simp at hj; done)
        all_goals
          clear hj
          have HV := Lib.hid hv
          have g0 : (((({ data := #[b0, b1, b2] } : ByteArray)[0]'(by show 0 < 3; omega)).toNat : Int) == 106) = _ := a0
          have g1 : (((({ data := #[b0, b1, b2] } : ByteArray)[1]'(by show 1 < 3; omega)).toNat : Int) == 106) = _ := a1
          have g2 : (((({ data := #[b0, b1, b2] } : ByteArray)[2]'(by show 2 < 3; omega)).toNat : Int) == 106) = _ := a2
          clear a0 a1 a2 hv
          go_wp2_with fail
          first
            | exact ⟨⟨k + 1, by omega, by go_num, Lib.hid (any_false_take hlt HT.out HV.out), HG1.out⟩, by simp [intOf]; omega⟩
            | (go_ret; exact ⟨ret_bool (by unfold leadsB; rw [any_true_at (p := fun x => jIs x n) hlt HV.out]; rfl), HF1.out⟩)
    · have hal : (c.ins.any fun x => jIs x n) = false := by
        have := HT.out
        rwa [List.take_of_length_le (by omega)] at this
      have HAL := Lib.hid hal
      clear hal HT hr1
      obtain ⟨wo, rfl⟩ : ∃ wo : World, wo = wr := ⟨_, rfl⟩
      go_wp2_with fail
      go_loopw [7] (fun i wq => ∃ m : Nat, m ≤ c.guards.length ∧ i = .int .i64 m ∧ Hid ((c.guards.take m).any (fun g => g.c == n) = false) ∧ wq = wo) (fun i _ => c.guards.length - (intOf i).toNat)
      case atStart => exact ⟨0, Nat.zero_le _, rfl, Lib.hid rfl, rfl⟩
      case round =>
        obtain ⟨m, hm, rfl, HT, rfl⟩ := hrel
        by_cases hlm : m < c.guards.length
        · obtain ⟨b, o, rfl, hb, hx⟩ := hr4 (by omega)
          have p2 : wr.cell? ⟨b, o + m * 4 + 2, none⟩ = some (.int .i64 c.guards[m].c) := (HF.out.cell (p := ⟨b, _, none⟩) hb).trans (hx m _ (List.getElem?_eq_getElem hlm) 2 _ rfl)
          clear hx hr4
          cases hv : (c.guards[m].c == n)
          · have HV := Lib.hid (any_false_take (p := fun g => g.c == n) hlm HT.out hv)
            go_wp2_with fail
            exact ⟨⟨m + 1, by omega, by go_num, HV, trivial⟩, by simp [intOf]; omega⟩
          · have HV := Lib.hid (any_true_at (p := fun g => g.c == n) hlm hv)
            go_wp2_with fail
            go_ret
            exact ⟨ret_bool (by unfold leadsB; rw [HAL.out, HV.out]; rfl), HF.out⟩
        · have hal2 : (c.guards.any fun g => g.c == n) = false := by
            have := HT.out
            rwa [List.take_of_length_le (by omega)] at this
          have HAL2 := Lib.hid hal2
          clear hal2 HT
          go_wp2_with fail
          go_ret
          exact ⟨ret_bool (by unfold leadsB; rw [HAL.out, HAL2.out]; rfl), HF.out⟩
end Go.Proofs.Ytagdompikjhnoaa
