/- sameCode of package code: equality of the codes. -/
import Derived.Test.YtagdompikjhnoaaSame
namespace Go.Proofs.Ytagdompikjhnoaa
open Go.RowKit

set_option maxHeartbeats 2000000 in
theorem sameCode_core (nm : ByteArray) (k l r : Int) (ai ap ak ag bi bp bk bg : Value) (xi yi xg yg : List I4) (xp yp xk yk : List V3) (w : World)
    (a1 : Sl w 4 en4 ai xi) (a2 : Sl w 3 en3 ap xp) (a3 : Sl w 3 en3 ak xk) (a4 : Sl w 4 en4 ag xg)
    (b1 : Sl w 4 en4 bi yi) (b2 : Sl w 3 en3 bp yp) (b3 : Sl w 3 en3 bk yk) (b4 : Sl w 4 en4 bg yg) :
    Calls Try.prog 26 #[.agg #[.string nm, .int .i64 k, .int .i64 l, .int .i64 r, ai, ap, ak, ag], .agg #[.string nm, .int .i64 k, .int .i64 l, .int .i64 r, bi, bp, bk, bg]] w
      fun e w' => e = .returned (.bool (decide (xi = yi) && decide (xp = yp) && decide (xk = yk) && decide (xg = yg))) ∧ Ext w w' := by
  have hE := ((Ext.refl w).alloc (.cells #[.string nm, .int .i64 k, .int .i64 l, .int .i64 r, ai, ap, ak, ag] 31)).alloc (.cells #[.string nm, .int .i64 k, .int .i64 l, .int .i64 r, bi, bp, bk, bg] 31)
  have hA := (Blk.new w 31 #[.string nm, .int .i64 k, .int .i64 l, .int .i64 r, ai, ap, ak, ag]).alloc (.cells #[.string nm, .int .i64 k, .int .i64 l, .int .i64 r, bi, bp, bk, bg] 31)
  have hB := Blk.new (w.alloc (.cells #[.string nm, .int .i64 k, .int .i64 l, .int .i64 r, ai, ap, ak, ag] 31)) 31 #[.string nm, .int .i64 k, .int .i64 l, .int .i64 r, bi, bp, bk, bg]
  rw [World.size_alloc] at hB
  have HE := Lib.hid hE
  have HA := Lib.hid hA
  have HB := Lib.hid hB
  clear hE hA hB
  go_enter Try.func26, Try.ntmps26
  go_wp2_with fail
  generalize (w.alloc (.cells #[.string nm, .int .i64 k, .int .i64 l, .int .i64 r, ai, ap, ak, ag] 31)).alloc (.cells #[.string nm, .int .i64 k, .int .i64 l, .int .i64 r, bi, bp, bk, bg] 31) = W at HE HA HB ⊢
  refine (eqIns _ _ xi yi _ (a1.mono HE.out) (b1.mono HE.out)).mono ?_
  rintro e w1 ⟨rfl, hb⟩
  replace HE := Lib.hid (HE.out.trans hb)
  replace HA := Lib.hid (HA.out.ext hb)
  replace HB := Lib.hid (HB.out.ext hb)
  clear hb
  have c1 := HA.out.cells
  have c2 := HB.out.cells
  generalize hd : decide (xi = yi) = d
  have D0 := Lib.hid hd
  clear hd
  cases d
  · go_wp2_with fail
    go_ret
    exact ⟨ret_bool (by rw [D0.out] <;> rfl), HE.out⟩
  go_wp2_with fail
  clear c1 c2
  refine (eqValue _ _ xp yp _ (a2.mono HE.out) (b2.mono HE.out)).mono ?_
  rintro e w1 ⟨rfl, hb⟩
  replace HE := Lib.hid (HE.out.trans hb)
  replace HA := Lib.hid (HA.out.ext hb)
  replace HB := Lib.hid (HB.out.ext hb)
  clear hb
  have c1 := HA.out.cells
  have c2 := HB.out.cells
  generalize hd : decide (xp = yp) = d
  have D1 := Lib.hid hd
  clear hd
  cases d
  · go_wp2_with fail
    go_ret
    exact ⟨ret_bool (by rw [D0.out, D1.out] <;> rfl), HE.out⟩
  go_wp2_with fail
  clear c1 c2
  refine (eqKey _ _ xk yk _ (a3.mono HE.out) (b3.mono HE.out)).mono ?_
  rintro e w1 ⟨rfl, hb⟩
  replace HE := Lib.hid (HE.out.trans hb)
  replace HA := Lib.hid (HA.out.ext hb)
  replace HB := Lib.hid (HB.out.ext hb)
  clear hb
  have c1 := HA.out.cells
  have c2 := HB.out.cells
  generalize hd : decide (xk = yk) = d
  have D2 := Lib.hid hd
  clear hd
  cases d
  · go_wp2_with fail
    go_ret
    exact ⟨ret_bool (by rw [D0.out, D1.out, D2.out] <;> rfl), HE.out⟩
  go_wp2_with fail
  clear c1 c2
  refine (eqGuard _ _ xg yg _ (a4.mono HE.out) (b4.mono HE.out)).mono ?_
  rintro e w1 ⟨rfl, hb⟩
  replace HE := Lib.hid (HE.out.trans hb)
  replace HA := Lib.hid (HA.out.ext hb)
  replace HB := Lib.hid (HB.out.ext hb)
  clear hb
  have c1 := HA.out.cells
  have c2 := HB.out.cells
  generalize hd : decide (xg = yg) = d
  have D3 := Lib.hid hd
  clear hd
  cases d
  · go_wp2_with fail
    go_ret
    exact ⟨ret_bool (by rw [D0.out, D1.out, D2.out, D3.out] <;> rfl), HE.out⟩
  go_wp2_with fail
  go_ret
  exact ⟨ret_bool (by rw [D0.out, D1.out, D2.out, D3.out] <;> rfl), HE.out⟩

set_option maxHeartbeats 1000000 in
theorem sameCode_any (va vb : Value) (a b : CodeD) (w : World) (h1 : IsCode w va a) (h2 : IsCode w vb b) :
    Calls Try.prog 26 #[va, vb] w fun e w' => e = .returned (.bool (decide (a = b))) ∧ Ext w w' := by
  obtain ⟨ai, ap, ak, ag, rfl, a1, a2, a3, a4⟩ := h1
  obtain ⟨bi, bp, bk, bg, rfl, b1, b2, b3, b4⟩ := h2
  obtain ⟨an, ak1, al, ar, ai1, ap1, ak2, ag1⟩ := a
  obtain ⟨bn, bk1, bl, br, bi1, bp1, bk2, bg1⟩ := b
  simp only at a1 a2 a3 a4 b1 b2 b3 b4 ⊢
  by_cases hn : an = bn ∧ ak1 = bk1 ∧ al = bl ∧ ar = br
  · obtain ⟨rfl, rfl, rfl, rfl⟩ := hn
    refine (sameCode_core an ak1 al ar _ _ _ _ _ _ _ _ _ _ _ _ _ _ _ _ w a1 a2 a3 a4 b1 b2 b3 b4).mono ?_
    rintro e w' ⟨rfl, hb⟩
    exact ⟨ret_bool (by simp [CodeD.mk.injEq, Bool.and_assoc]), hb⟩
  · have hd : decide ((⟨an, ak1, al, ar, ai1, ap1, ak2, ag1⟩ : CodeD) = ⟨bn, bk1, bl, br, bi1, bp1, bk2, bg1⟩) = false := by
      apply decide_eq_false
      intro h
      simp only [CodeD.mk.injEq] at h
      exact hn ⟨h.1, h.2.1, h.2.2.1, h.2.2.2.1⟩
    rw [hd]
    clear hd
    by_cases e1 : an = bn
    · subst e1
      by_cases e2 : ak1 = bk1
      · subst e2
        by_cases e3 : al = bl
        · subst e3
          have e4 : (ar == br) = false := by simpa using hn
          clear hn
          go_enter Try.func26, Try.ntmps26
          go_wp2_with fail
          go_ret
          exact ⟨rfl, ((Ext.refl w).alloc _).alloc _⟩
        · have e4 : (al == bl) = false := by simpa using e3
          clear hn e3
          go_enter Try.func26, Try.ntmps26
          go_wp2_with fail
          go_ret
          exact ⟨rfl, ((Ext.refl w).alloc _).alloc _⟩
      · have e4 : (ak1 == bk1) = false := by simpa using e2
        clear hn e2
        go_enter Try.func26, Try.ntmps26
        go_wp2_with fail
        go_ret
        exact ⟨rfl, ((Ext.refl w).alloc _).alloc _⟩
    · have e4 : (an.toList == bn.toList) = false := by simp only [beq_eq_false_iff_ne]; exact fun h => e1 (bytes_ext.1 h)
      clear hn e1
      go_enter Try.func26, Try.ntmps26
      go_wp2_with fail
      go_ret
      exact ⟨rfl, ((Ext.refl w).alloc _).alloc _⟩
end Go.Proofs.Ytagdompikjhnoaa
