/- slices.EqualFunc at api.Code, and Same of package code. -/
import Derived.Test.YtagdompikjhnoaaSameCode
namespace Go.Proofs.Ytagdompikjhnoaa
open Go.RowKit

/-- The slice value v (of api.Code) holds the codes xs. -/
def SlC (w : World) (v : Value) (xs : List CodeD) : Prop :=
  ∃ rows : List (Array Value), Sl w 8 (fun r => r.toList) v rows ∧ rows.length = xs.length ∧ ∀ (i : Nat) (r : Array Value) (x : CodeD), rows[i]? = some r → xs[i]? = some x → IsCode w (.agg r) x
theorem SlC.mono {w w' : World} {v : Value} {xs : List CodeD} (h : SlC w v xs) (hb : Ext w w') : SlC w' v xs := by
  obtain ⟨rows, h1, h2, h3⟩ := h
  exact ⟨rows, h1.mono hb, h2, fun i r x hr hx => (h3 i r x hr hx).mono hb⟩

set_option maxHeartbeats 2000000 in
set_option maxRecDepth 100000 in
theorem eqFunc_any (v1 v2 : Value) (xs ys : List CodeD) (w : World) (h1 : SlC w v1 xs) (h2 : SlC w v2 ys) :
    Calls Try.prog 25 #[v1, v2, .func (Fn.func 26) #[] #[]] w fun e w' => e = .returned (.bool (decide (xs = ys))) ∧ Ext w w' := by
  obtain ⟨r1, ⟨A1, c1, rfl, hc1, hm1, hr1⟩, hl1, hx1⟩ := h1
  obtain ⟨r2, ⟨A2, c2, rfl, hc2, hm2, hr2⟩, hl2, hx2⟩ := h2
  by_cases hl : xs.length = ys.length
  · have hlb : ((r1.length : Int) != (r2.length : Int)) = false := by simp; omega
    have HL := Lib.hid hl
    have HL1 := Lib.hid hl1
    have HL2 := Lib.hid hl2
    clear hl hl1 hl2
    go_enter Try.func25, Try.ntmps25
    go_wp2
    go_loopw [17] (fun i wr => ∃ k : Nat, k ≤ xs.length ∧ i = .int .i64 k ∧ Hid (xs.take k = ys.take k) ∧ Ext w wr) (fun i _ => xs.length - (intOf i).toNat)
    case atStart => exact ⟨0, Nat.zero_le _, rfl, Lib.hid rfl, Ext.refl w⟩
    case round =>
      obtain ⟨k, hk, rfl, HT, hE⟩ := hrel
      by_cases hlt : k < xs.length
      · have hlt2 : k < ys.length := by rw [← HL.out]; exact hlt
        have g1 : k < r1.length := by rw [HL1.out]; exact hlt
        have g2 : k < r2.length := by rw [HL2.out]; exact hlt2
        obtain ⟨b1, o1, rfl, hb1, hy1⟩ := hr1 (by omega)
        obtain ⟨b2, o2, rfl, hb2, hy2⟩ := hr2 (by omega)
        have i1 := hx1 k _ _ (List.getElem?_eq_getElem g1) (List.getElem?_eq_getElem hlt)
        have i2 := hx2 k _ _ (List.getElem?_eq_getElem g2) (List.getElem?_eq_getElem hlt2)
        obtain ⟨aA1, aA2, aA3, aA4, an1, an2, an3, an4, ac1, ac2, ac3, ac4, ra⟩ := i1.form
        obtain ⟨bA1, bA2, bA3, bA4, bn1, bn2, bn3, bn4, bc1, bc2, bc3, bc4, rb⟩ := i2.form
        injection ra with ra
        injection rb with rb
        have j1 : ∀ j u, #[Value.string xs[k].name, .int .i64 xs[k].kind, .int .i64 xs[k].length, .int .i64 xs[k].regs, .slice aA1 an1 ac1, .slice aA2 an2 ac2, .slice aA3 an3 ac3, .slice aA4 an4 ac4][j]? = some u → wr.cell? ⟨b1, o1 + k * 8 + j, none⟩ = some u := fun j u hu =>
          (hE.cell (p := ⟨b1, _, none⟩) hb1).trans (hy1 k _ (List.getElem?_eq_getElem g1) j u (by rw [ra]; simpa using hu))
        have j2 : ∀ j u, #[Value.string ys[k].name, .int .i64 ys[k].kind, .int .i64 ys[k].length, .int .i64 ys[k].regs, .slice bA1 bn1 bc1, .slice bA2 bn2 bc2, .slice bA3 bn3 bc3, .slice bA4 bn4 bc4][j]? = some u → wr.cell? ⟨b2, o2 + k * 8 + j, none⟩ = some u := fun j u hu =>
          (hE.cell (p := ⟨b2, _, none⟩) hb2).trans (hy2 k _ (List.getElem?_eq_getElem g2) j u (by rw [rb]; simpa using hu))
        have p0 : wr.cell? ⟨b1, o1 + k * 8, none⟩ = some (.string xs[k].name) := j1 0 _ rfl
        have q0 : wr.cell? ⟨b2, o2 + k * 8, none⟩ = some (.string ys[k].name) := j2 0 _ rfl
        have p1 : wr.cell? ⟨b1, o1 + k * 8 + 1, none⟩ = some (.int .i64 xs[k].kind) := j1 1 _ rfl
        have q1 : wr.cell? ⟨b2, o2 + k * 8 + 1, none⟩ = some (.int .i64 ys[k].kind) := j2 1 _ rfl
        have p2 : wr.cell? ⟨b1, o1 + k * 8 + 2, none⟩ = some (.int .i64 xs[k].length) := j1 2 _ rfl
        have q2 : wr.cell? ⟨b2, o2 + k * 8 + 2, none⟩ = some (.int .i64 ys[k].length) := j2 2 _ rfl
        have p3 : wr.cell? ⟨b1, o1 + k * 8 + 3, none⟩ = some (.int .i64 xs[k].regs) := j1 3 _ rfl
        have q3 : wr.cell? ⟨b2, o2 + k * 8 + 3, none⟩ = some (.int .i64 ys[k].regs) := j2 3 _ rfl
        have p4 : wr.cell? ⟨b1, o1 + k * 8 + 4, none⟩ = some (.slice aA1 an1 ac1) := j1 4 _ rfl
        have q4 : wr.cell? ⟨b2, o2 + k * 8 + 4, none⟩ = some (.slice bA1 bn1 bc1) := j2 4 _ rfl
        have p5 : wr.cell? ⟨b1, o1 + k * 8 + 5, none⟩ = some (.slice aA2 an2 ac2) := j1 5 _ rfl
        have q5 : wr.cell? ⟨b2, o2 + k * 8 + 5, none⟩ = some (.slice bA2 bn2 bc2) := j2 5 _ rfl
        have p6 : wr.cell? ⟨b1, o1 + k * 8 + 6, none⟩ = some (.slice aA3 an3 ac3) := j1 6 _ rfl
        have q6 : wr.cell? ⟨b2, o2 + k * 8 + 6, none⟩ = some (.slice bA3 bn3 bc3) := j2 6 _ rfl
        have p7 : wr.cell? ⟨b1, o1 + k * 8 + 7, none⟩ = some (.slice aA4 an4 ac4) := j1 7 _ rfl
        have q7 : wr.cell? ⟨b2, o2 + k * 8 + 7, none⟩ = some (.slice bA4 bn4 bc4) := j2 7 _ rfl
        rw [ra] at i1
        rw [rb] at i2
        have hw1 : b1 < wr.heap.size := Nat.lt_of_lt_of_le hb1 hE.size
        have hw2 : b2 < wr.heap.size := Nat.lt_of_lt_of_le hb2 hE.size
        clear j1 j2 hy1 hy2 ra rb hr1 hr2 hx1 hx2
        have HE := Lib.hid hE
        clear hE
        go_wp2_with fail
        refine (sameCode_any _ _ xs[k] ys[k] _ (i1.mono ((HE.out.alloc _).alloc _)) (i2.mono ((HE.out.alloc _).alloc _))).mono ?_
        rintro e w1 ⟨rfl, hb⟩
        have HF := Lib.hid (((HE.out.alloc _).alloc _).trans hb)
        clear hb
        generalize hd : decide (xs[k] = ys[k]) = d
        have HD := Lib.hid hd
        clear hd
        cases d
        · go_wp2_with fail
          go_ret
          exact ⟨ret_bool (decide_eq_false (ne_of_at hlt hlt2 (of_decide_eq_false HD.out))).symm, HF.out⟩
        · go_wp2_with fail
          exact ⟨⟨k + 1, by omega, by go_num, Lib.hid (take_succ_eq hlt hlt2 HT.out (of_decide_eq_true HD.out)), HF.out⟩, by simp [intOf]; omega⟩
      · have g : ¬ k < r1.length := by rw [HL1.out]; exact hlt
        go_wp2_with fail
        go_ret
        exact ⟨ret_bool (decide_eq_true (eq_of_take (by omega) HL.out HT.out)).symm, hE⟩
  · have hlb : ((r1.length : Int) != (r2.length : Int)) = true := by simp; omega
    have HL := Lib.hid hl
    clear hl
    go_enter Try.func25, Try.ntmps25
    go_wp2
    go_ret
    exact ⟨ret_bool (decide_eq_false (fun h => HL.out (by rw [h]))).symm, Ext.refl _⟩

set_option maxHeartbeats 2000000 in
theorem same_any (v1 v2 : Value) (xs ys : List CodeD) (w : World) (h1 : SlC w v1 xs) (h2 : SlC w v2 ys) :
    Calls Try.prog 16 #[.agg #[v1], .agg #[v2]] w fun e w' => e = .returned (.bool (decide (xs = ys))) ∧ Ext w w' := by
  have hE := ((Ext.refl w).alloc (.cells #[v1] 35)).alloc (.cells #[v2] 35)
  go_enter Try.func16, Try.ntmps16
  go_wp2_with fail
  refine (accE hE (eqFunc_any _ _ xs ys _ (h1.mono hE) (h2.mono hE))).mono ?_
  rintro e w' ⟨rfl, hb⟩
  go_wp2_with fail
  go_ret
  exact ⟨rfl, hb⟩
end Go.Proofs.Ytagdompikjhnoaa
