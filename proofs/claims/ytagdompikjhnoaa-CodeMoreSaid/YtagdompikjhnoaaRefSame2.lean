/- sameCode and Same of the reference, whatever the codes. -/
import Derived.Test.YtagdompikjhnoaaRefSame
import Derived.StillTailTactics
namespace Go.Proofs.Ytagdompikjhnoaa
open Go.RowKit

set_option maxHeartbeats 4000000 in
set_option maxRecDepth 100000 in
theorem refSameCode_any (va vb : Value) (a b : CodeD) (w : World) (h1 : IsCode w va a) (h2 : IsCode w vb b) :
    Calls Try.prog 27 #[va, vb] w fun e w' => e = .returned (.bool (decide (a = b))) ∧ Ext w w' := by
  obtain ⟨ai, ap, ak, ag, rfl, a1, a2, a3, a4⟩ := h1
  obtain ⟨bi, bp, bk, bg, rfl, b1, b2, b3, b4⟩ := h2
  obtain ⟨an, ak1, al, ar, ai1, ap1, ak2, ag1⟩ := a
  obtain ⟨bn, bk1, bl, br, bi1, bp1, bk2, bg1⟩ := b
  simp only at a1 a2 a3 a4 b1 b2 b3 b4 ⊢
  by_cases hn : an = bn ∧ ak1 = bk1 ∧ al = bl ∧ ar = br ∧ ai1.length = bi1.length ∧ ap1.length = bp1.length ∧ ak2.length = bk2.length ∧ ag1.length = bg1.length
  · obtain ⟨rfl, rfl, rfl, rfl, l1, l2, l3, l4⟩ := hn
    obtain ⟨_, _, rfl, -⟩ := id a1
    obtain ⟨_, _, rfl, -⟩ := id a2
    obtain ⟨_, _, rfl, -⟩ := id a3
    obtain ⟨_, _, rfl, -⟩ := id a4
    obtain ⟨_, _, rfl, -⟩ := id b1
    obtain ⟨_, _, rfl, -⟩ := id b2
    obtain ⟨_, _, rfl, -⟩ := id b3
    obtain ⟨_, _, rfl, -⟩ := id b4
    refine (refSame_core an ak1 al ar _ _ _ _ _ _ _ _ _ _ _ _ _ _ _ _ _ _ _ _ _ _ _ _ w a1 b1 a2 b2 a3 b3 a4 b4 l1 l2 l3 l4).mono ?_
    rintro e w' ⟨rfl, hb⟩
    exact ⟨ret_bool (by simp [CodeD.mk.injEq, Bool.and_assoc]), hb⟩
  · have hd : decide ((⟨an, ak1, al, ar, ai1, ap1, ak2, ag1⟩ : CodeD) = ⟨bn, bk1, bl, br, bi1, bp1, bk2, bg1⟩) = false := by
      apply decide_eq_false
      intro h
      simp only [CodeD.mk.injEq] at h
      exact hn ⟨h.1, h.2.1, h.2.2.1, h.2.2.2.1, by rw [h.2.2.2.2.1], by rw [h.2.2.2.2.2.1], by rw [h.2.2.2.2.2.2.1], by rw [h.2.2.2.2.2.2.2]⟩
    rw [hd]
    clear hd
    obtain ⟨A1, c1, rfl, -⟩ := a1
    obtain ⟨A2, c2, rfl, -⟩ := a2
    obtain ⟨A3, c3, rfl, -⟩ := a3
    obtain ⟨A4, c4, rfl, -⟩ := a4
    obtain ⟨B1, d1, rfl, -⟩ := b1
    obtain ⟨B2, d2, rfl, -⟩ := b2
    obtain ⟨B3, d3, rfl, -⟩ := b3
    obtain ⟨B4, d4, rfl, -⟩ := b4
    generalize ai1.length = n1 at *
    generalize ap1.length = n2 at *
    generalize ak2.length = n3 at *
    generalize ag1.length = n4 at *
    generalize bi1.length = m1 at *
    generalize bp1.length = m2 at *
    generalize bk2.length = m3 at *
    generalize bg1.length = m4 at *
    clear ai1 ap1 ak2 ag1 bi1 bp1 bk2 bg1
    have key : (an.toList == bn.toList) = false ∨ an = bn ∧ ((ak1 != bk1) = true ∨ ak1 = bk1 ∧ ((al != bl) = true ∨ al = bl ∧ ((ar != br) = true ∨ ar = br ∧
        (((n1 : Int) != m1) = true ∨ n1 = m1 ∧ (((n2 : Int) != m2) = true ∨ n2 = m2 ∧ (((n3 : Int) != m3) = true ∨ n3 = m3 ∧ ((n4 : Int) != m4) = true)))))) := by
      by_cases e0 : an = bn
      · refine .inr ⟨e0, ?_⟩
        have hn' : ¬ (ak1 = bk1 ∧ al = bl ∧ ar = br ∧ n1 = m1 ∧ n2 = m2 ∧ n3 = m3 ∧ n4 = m4) := fun h => hn ⟨e0, h⟩
        clear hn
        simp only [bne_iff_ne]
        omega
      · exact .inl (by simp only [beq_eq_false_iff_ne]; exact fun h => e0 (bytes_ext.1 h))
    clear hn
    rcases key with h | ⟨rfl, h | ⟨rfl, h | ⟨rfl, h | ⟨rfl, h | ⟨rfl, h | ⟨rfl, h | ⟨rfl, h⟩⟩⟩⟩⟩⟩⟩
    all_goals
      go_enter Try.func27, Try.ntmps27
      go_wp2_with fail
      go_ret
      exact ⟨rfl, ((Ext.refl w).alloc _).alloc _⟩

set_option maxHeartbeats 4000000 in
set_option maxRecDepth 100000 in
theorem refSame_any (v1 v2 : Value) (xs ys : List CodeD) (w : World) (h1 : SlC w v1 xs) (h2 : SlC w v2 ys) :
    Calls Try.prog 17 #[.agg #[v1], .agg #[v2]] w fun e w' => e = .returned (.bool (decide (xs = ys))) ∧ Ext w w' := by
  obtain ⟨r1, ⟨A1, c1, rfl, hc1, hm1, hr1⟩, hl1, hx1⟩ := h1
  obtain ⟨r2, ⟨A2, c2, rfl, hc2, hm2, hr2⟩, hl2, hx2⟩ := h2
  have hE := ((Ext.refl w).alloc (.cells #[.slice A1 r1.length c1] 35)).alloc (.cells #[.slice A2 r2.length c2] 35)
  have hA := (Blk.new w 35 #[.slice A1 r1.length c1]).alloc (.cells #[.slice A2 r2.length c2] 35)
  have hB := Blk.new (w.alloc (.cells #[.slice A1 r1.length c1] 35)) 35 #[.slice A2 r2.length c2]
  rw [World.size_alloc] at hB
  have HE := Lib.hid hE
  have HA := Lib.hid hA
  have HB := Lib.hid hB
  clear hE hA hB
  by_cases hl : xs.length = ys.length
  · have hlb : ((r1.length : Int) != (r2.length : Int)) = false := by simp; omega
    have HL := Lib.hid hl
    have HL1 := Lib.hid hl1
    have HL2 := Lib.hid hl2
    clear hl hl1 hl2
    go_enter Try.func17, Try.ntmps17
    go_wp2_with fail
    generalize (w.alloc (.cells #[.slice A1 r1.length c1] 35)).alloc (.cells #[.slice A2 r2.length c2] 35) = W at HE HA HB ⊢
    clear hlb
    go_loopw [5] (fun i wr => ∃ k : Nat, k ≤ xs.length ∧ i = .int .i64 k ∧ Hid (xs.take k = ys.take k) ∧ Ext W wr) (fun i _ => xs.length - (intOf i).toNat)
    case atStart => exact ⟨0, Nat.zero_le _, rfl, Lib.hid rfl, Ext.refl W⟩
    case round =>
      obtain ⟨k, hk, rfl, HT, hE⟩ := hrel
      have cA := (HA.out.ext hE).cells
      have cB := (HB.out.ext hE).cells
      have hF := HE.out.trans hE
      by_cases hlt : k < xs.length
      · have hlt2 : k < ys.length := by rw [← HL.out]; exact hlt
        have g1 : k < r1.length := by rw [HL1.out]; exact hlt
        have g2 : k < r2.length := by rw [HL2.out]; exact hlt2
        obtain ⟨b1, o1, rfl, hb1, hy1⟩ := hr1 (by omega)
        obtain ⟨b2, o2, rfl, hb2, hy2⟩ := hr2 (by omega)
        have i1 := hx1 k _ _ (List.getElem?_eq_getElem g1) (List.getElem?_eq_getElem hlt)
        have i2 := hx2 k _ _ (List.getElem?_eq_getElem g2) (List.getElem?_eq_getElem hlt2)
        obtain ⟨aA1, aA2, aA3, aA4, an1, an2, an3, an4, ac1, ac2, ac3, ac4, ra⟩ := i1.form
        obtain ⟨bA1, bA2, bA3, bA4, bn1, bn2, bn3, bn4, bc1, bc2, bc3, bc4, rb⟩ := i2.form
        injection ra with ra
        injection rb with rb
        have j1 : ∀ j u, #[Value.string xs[k].name, .int .i64 xs[k].kind, .int .i64 xs[k].length, .int .i64 xs[k].regs, .slice aA1 an1 ac1, .slice aA2 an2 ac2, .slice aA3 an3 ac3, .slice aA4 an4 ac4][j]? = some u → wr.cell? ⟨b1, o1 + k * 8 + j, none⟩ = some u := fun j u hu =>
          (hF.cell (p := ⟨b1, _, none⟩) hb1).trans (hy1 k _ (List.getElem?_eq_getElem g1) j u (by rw [ra]; simpa using hu))
        have j2 : ∀ j u, #[Value.string ys[k].name, .int .i64 ys[k].kind, .int .i64 ys[k].length, .int .i64 ys[k].regs, .slice bA1 bn1 bc1, .slice bA2 bn2 bc2, .slice bA3 bn3 bc3, .slice bA4 bn4 bc4][j]? = some u → wr.cell? ⟨b2, o2 + k * 8 + j, none⟩ = some u := fun j u hu =>
          (hF.cell (p := ⟨b2, _, none⟩) hb2).trans (hy2 k _ (List.getElem?_eq_getElem g2) j u (by rw [rb]; simpa using hu))
        have p0 : wr.cell? ⟨b1, o1 + k * 8, none⟩ = some (.string xs[k].name) := j1 0 _ rfl
        have q0 : wr.cell? ⟨b2, o2 + k * 8, none⟩ = some (.string ys[k].name) := j2 0 _ rfl
        have p1 : wr.cell? ⟨b1, o1 + k * 8 + 1, none⟩ = some (.int .i64 xs[k].kind) := j1 1 _ rfl
        have q1 : wr.cell? ⟨b2, o2 + k * 8 + 1, none⟩ = some (.int .i64 ys[k].kind) := j2 1 _ rfl
        have p2 : wr.cell? ⟨b1, o1 + k * 8 + 2, none⟩ = some (.int .i64 xs[k].length) := j1 2 _ rfl
        have q2 : wr.cell? ⟨b2, o2 + k * 8 + 2, none⟩ = some (.int .i64 ys[k].length) := j2 2 _ rfl
        have p3 : wr.cell? ⟨b1, o1 + k * 8 + 3, none⟩ = some (.int .i64 xs[k].regs) := j1 3 _ rfl
        have q3 : wr.cell? ⟨b2, o2 + k * 8 + 3, none⟩ = some (.int .i64 ys[k].regs) := j2 3 _ rfl
        have p4 : wr.cell? ⟨b1, o1 + k * 8 + 4, none⟩ = some (.slice aA1 an1 ac1) := j1 4 _ rfl
        have q4 : wr.cell? ⟨b2, o2 + k * 8 + 4, none⟩ = some (.slice bA1 bn1 bc1) := j2 4 _ rfl
        have p5 : wr.cell? ⟨b1, o1 + k * 8 + 5, none⟩ = some (.slice aA2 an2 ac2) := j1 5 _ rfl
        have q5 : wr.cell? ⟨b2, o2 + k * 8 + 5, none⟩ = some (.slice bA2 bn2 bc2) := j2 5 _ rfl
        have p6 : wr.cell? ⟨b1, o1 + k * 8 + 6, none⟩ = some (.slice aA3 an3 ac3) := j1 6 _ rfl
        have q6 : wr.cell? ⟨b2, o2 + k * 8 + 6, none⟩ = some (.slice bA3 bn3 bc3) := j2 6 _ rfl
        have p7 : wr.cell? ⟨b1, o1 + k * 8 + 7, none⟩ = some (.slice aA4 an4 ac4) := j1 7 _ rfl
        have q7 : wr.cell? ⟨b2, o2 + k * 8 + 7, none⟩ = some (.slice bA4 bn4 bc4) := j2 7 _ rfl
        rw [ra] at i1
        rw [rb] at i2
        have hw1 : b1 < wr.heap.size := Nat.lt_of_lt_of_le hb1 hF.size
        have hw2 : b2 < wr.heap.size := Nat.lt_of_lt_of_le hb2 hF.size
        clear j1 j2 hy1 hy2 ra rb hr1 hr2 hx1 hx2
        have HF := Lib.hid hF
        have HG := Lib.hid hE
        clear hE hF
        go_wp2_with fail
        go_still_tail 10, (by kernel_rfl)
        change wpList _ _ _ _ _ wr.drew
        have HF2 := Lib.hid HF.out.drew
        have HG2 := Lib.hid HG.out.drew
        generalize wr.drew = wd at HF2 HG2 ⊢
        go_wp2_with fail
        refine (refSameCode_any _ _ xs[k] ys[k] _ (i1.mono HF2.out) (i2.mono HF2.out)).mono ?_
        rintro e w1 ⟨rfl, hb⟩
        have HX := Lib.hid (HF2.out.trans hb)
        have HY := Lib.hid (HG2.out.trans hb)
        clear hb
        generalize hd : decide (xs[k] = ys[k]) = d
        have HD := Lib.hid hd
        clear hd
        cases d
        · go_wp2_with fail
          go_ret
          exact ⟨ret_bool (decide_eq_false (ne_of_at hlt hlt2 (of_decide_eq_false HD.out))).symm, HX.out⟩
        · go_wp2_with fail
          exact ⟨⟨k + 1, by omega, by go_num, Lib.hid (take_succ_eq hlt hlt2 HT.out (of_decide_eq_true HD.out)), HY.out⟩, by simp [intOf]; omega⟩
      · have g : ¬ k < r1.length := by rw [HL1.out]; exact hlt
        go_wp2_with fail
        go_ret
        exact ⟨ret_bool (decide_eq_true (eq_of_take (by omega) HL.out HT.out)).symm, hF⟩
  · have hlb : ((r1.length : Int) != (r2.length : Int)) = true := by simp; omega
    have HL := Lib.hid hl
    clear hl hl1 hl2
    go_enter Try.func17, Try.ntmps17
    go_wp2
    go_ret
    exact ⟨ret_bool (decide_eq_false (fun h => HL.out (by rw [h]))).symm, HE.out⟩
end Go.Proofs.Ytagdompikjhnoaa
