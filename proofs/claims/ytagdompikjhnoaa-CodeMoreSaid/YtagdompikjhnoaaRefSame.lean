/- sameCode and Same of the reference: equality. -/
import Derived.Test.YtagdompikjhnoaaSameImg
namespace Go.Proofs.Ytagdompikjhnoaa
open Go.RowKit

set_option maxHeartbeats 4000000 in
set_option maxRecDepth 100000 in
theorem refSame_core (nm : ByteArray) (k l r : Int) (aiA apA akA agA biA bpA bkA bgA : Option Addr) (aic apc akc agc bic bpc bkc bgc : Nat) (xi yi xg yg : List I4) (xp yp xk yk : List V3) (w : World)
    (hai : Sl w 4 en4 (.slice aiA xi.length aic) xi)
    (hbi : Sl w 4 en4 (.slice biA yi.length bic) yi)
    (hap : Sl w 3 en3 (.slice apA xp.length apc) xp)
    (hbp : Sl w 3 en3 (.slice bpA yp.length bpc) yp)
    (hak : Sl w 3 en3 (.slice akA xk.length akc) xk)
    (hbk : Sl w 3 en3 (.slice bkA yk.length bkc) yk)
    (hag : Sl w 4 en4 (.slice agA xg.length agc) xg)
    (hbg : Sl w 4 en4 (.slice bgA yg.length bgc) yg)
    (li : xi.length = yi.length)
    (lp : xp.length = yp.length)
    (lk : xk.length = yk.length)
    (lg : xg.length = yg.length)
    : Calls Try.prog 27 #[.agg #[.string nm, .int .i64 k, .int .i64 l, .int .i64 r, .slice aiA xi.length aic, .slice apA xp.length apc, .slice akA xk.length akc, .slice agA xg.length agc], .agg #[.string nm, .int .i64 k, .int .i64 l, .int .i64 r, .slice biA yi.length bic, .slice bpA yp.length bpc, .slice bkA yk.length bkc, .slice bgA yg.length bgc]] w
      fun e w' => e = .returned (.bool (decide (xi = yi) && decide (xp = yp) && decide (xk = yk) && decide (xg = yg))) ∧ Ext w w' := by
  have hE := ((Ext.refl w).alloc (.cells #[.string nm, .int .i64 k, .int .i64 l, .int .i64 r, .slice aiA xi.length aic, .slice apA xp.length apc, .slice akA xk.length akc, .slice agA xg.length agc] 31)).alloc (.cells #[.string nm, .int .i64 k, .int .i64 l, .int .i64 r, .slice biA yi.length bic, .slice bpA yp.length bpc, .slice bkA yk.length bkc, .slice bgA yg.length bgc] 31)
  have hA := (Blk.new w 31 #[.string nm, .int .i64 k, .int .i64 l, .int .i64 r, .slice aiA xi.length aic, .slice apA xp.length apc, .slice akA xk.length akc, .slice agA xg.length agc]).alloc (.cells #[.string nm, .int .i64 k, .int .i64 l, .int .i64 r, .slice biA yi.length bic, .slice bpA yp.length bpc, .slice bkA yk.length bkc, .slice bgA yg.length bgc] 31)
  have hB := Blk.new (w.alloc (.cells #[.string nm, .int .i64 k, .int .i64 l, .int .i64 r, .slice aiA xi.length aic, .slice apA xp.length apc, .slice akA xk.length akc, .slice agA xg.length agc] 31)) 31 #[.string nm, .int .i64 k, .int .i64 l, .int .i64 r, .slice biA yi.length bic, .slice bpA yp.length bpc, .slice bkA yk.length bkc, .slice bgA yg.length bgc]
  rw [World.size_alloc] at hB
  have HE := Lib.hid hE
  have HA := Lib.hid hA
  have HB := Lib.hid hB
  clear hE hA hB
  have ni : ((xi.length : Int) != (yi.length : Int)) = false := by simp [li]
  have Li := Lib.hid li
  clear li
  have np : ((xp.length : Int) != (yp.length : Int)) = false := by simp [lp]
  have Lp := Lib.hid lp
  clear lp
  have nk : ((xk.length : Int) != (yk.length : Int)) = false := by simp [lk]
  have Lk := Lib.hid lk
  clear lk
  have ng : ((xg.length : Int) != (yg.length : Int)) = false := by simp [lg]
  have Lg := Lib.hid lg
  clear lg
  go_enter Try.func27, Try.ntmps27
  go_wp2_with fail
  generalize (w.alloc (.cells #[.string nm, .int .i64 k, .int .i64 l, .int .i64 r, .slice aiA xi.length aic, .slice apA xp.length apc, .slice akA xk.length akc, .slice agA xg.length agc] 31)).alloc (.cells #[.string nm, .int .i64 k, .int .i64 l, .int .i64 r, .slice biA yi.length bic, .slice bpA yp.length bpc, .slice bkA yk.length bkc, .slice bgA yg.length bgc] 31) = W at HE HA HB ⊢
  have cA := HA.out.cells
  have cB := HB.out.cells
  clear ni np nk ng
  obtain ⟨-, hcai, hmai, hrai⟩ := (hai.mono HE.out).opened
  obtain ⟨-, hcbi, hmbi, hrbi⟩ := (hbi.mono HE.out).opened
  obtain ⟨-, hcap, hmap, hrap⟩ := (hap.mono HE.out).opened
  obtain ⟨-, hcbp, hmbp, hrbp⟩ := (hbp.mono HE.out).opened
  obtain ⟨-, hcak, hmak, hrak⟩ := (hak.mono HE.out).opened
  obtain ⟨-, hcbk, hmbk, hrbk⟩ := (hbk.mono HE.out).opened
  obtain ⟨-, hcag, hmag, hrag⟩ := (hag.mono HE.out).opened
  obtain ⟨-, hcbg, hmbg, hrbg⟩ := (hbg.mono HE.out).opened
  go_loopw [5] (fun i wr => ∃ k : Nat, k ≤ xi.length ∧ i = .int .i64 k ∧ Hid (xi.take k = yi.take k) ∧ ∃ n, wr = W.drewN n) (fun i _ => xi.length - (intOf i).toNat)
  case atStart => exact ⟨0, Nat.zero_le _, rfl, Lib.hid rfl, 0, rfl⟩
  case round =>
    obtain ⟨ki, hk, rfl, HTi, n0, rfl⟩ := hrel
    by_cases hlt : ki < xi.length
    · have hlt2 : ki < yi.length := by rw [← Li.out]; exact hlt
      obtain ⟨b1, o1, rfl, hb1, hx1⟩ := hrai (by omega)
      obtain ⟨b2, o2, rfl, hb2, hx2⟩ := hrbi (by omega)
      have p0 := hx1 ki _ (List.getElem?_eq_getElem hlt) 0 _ rfl
      have q0 := hx2 ki _ (List.getElem?_eq_getElem hlt2) 0 _ rfl
      have p1 := hx1 ki _ (List.getElem?_eq_getElem hlt) 1 _ rfl
      have q1 := hx2 ki _ (List.getElem?_eq_getElem hlt2) 1 _ rfl
      have p2 := hx1 ki _ (List.getElem?_eq_getElem hlt) 2 _ rfl
      have q2 := hx2 ki _ (List.getElem?_eq_getElem hlt2) 2 _ rfl
      have p3 := hx1 ki _ (List.getElem?_eq_getElem hlt) 3 _ rfl
      have q3 := hx2 ki _ (List.getElem?_eq_getElem hlt2) 3 _ rfl
      clear hx1 hx2 hrai hrbi hrap hrbp hrak hrbk hrag hrbg
      simp only [Nat.add_zero] at p0 q0
      have hne := fun W => neqIns W xi[ki] yi[ki]
      go_wp2
      go_quiet (fail)
      go_wp2
      · rename_i hd
        have h3 : ¬ xi[ki] = yi[ki] := by simpa using hd
        go_ret
        exact ⟨ret_bool (by rw [decide_eq_false (ne_of_at hlt hlt2 h3)] <;> simp), (HE.out.drewN _).drewN _⟩
      · rename_i hd
        have h3 : xi[ki] = yi[ki] := by simpa using hd
        exact ⟨⟨ki + 1, by omega, by go_num, Lib.hid (take_succ_eq hlt hlt2 HTi.out h3), _, rfl⟩, by simp [intOf]; omega⟩
    · have Ti := Lib.hid (eq_of_take (k := ki) (by omega) Li.out HTi.out)
      clear HTi
      go_wp2
      go_loopw [6] (fun i wr => ∃ k : Nat, k ≤ xp.length ∧ i = .int .i64 k ∧ Hid (xp.take k = yp.take k) ∧ ∃ n, wr = W.drewN n) (fun i _ => xp.length - (intOf i).toNat)
      case atStart => exact ⟨0, Nat.zero_le _, rfl, Lib.hid rfl, n0, rfl⟩
      case round =>
        obtain ⟨kp, hk, rfl, HTp, n1, rfl⟩ := hrel
        by_cases hlt : kp < xp.length
        · have hlt2 : kp < yp.length := by rw [← Lp.out]; exact hlt
          obtain ⟨b1, o1, rfl, hb1, hx1⟩ := hrap (by omega)
          obtain ⟨b2, o2, rfl, hb2, hx2⟩ := hrbp (by omega)
          have p0 := hx1 kp _ (List.getElem?_eq_getElem hlt) 0 _ rfl
          have q0 := hx2 kp _ (List.getElem?_eq_getElem hlt2) 0 _ rfl
          have p1 := hx1 kp _ (List.getElem?_eq_getElem hlt) 1 _ rfl
          have q1 := hx2 kp _ (List.getElem?_eq_getElem hlt2) 1 _ rfl
          have p2 := hx1 kp _ (List.getElem?_eq_getElem hlt) 2 _ rfl
          have q2 := hx2 kp _ (List.getElem?_eq_getElem hlt2) 2 _ rfl
          clear hx1 hx2 hrap hrbp hrak hrbk hrag hrbg
          simp only [Nat.add_zero] at p0 q0
          have hne := fun W => neqValue W xp[kp] yp[kp]
          go_wp2
          go_quiet (fail)
          go_wp2
          · rename_i hd
            have h3 : ¬ xp[kp] = yp[kp] := by simpa using hd
            go_ret
            exact ⟨ret_bool (by rw [decide_eq_true Ti.out, decide_eq_false (ne_of_at hlt hlt2 h3)] <;> simp), (HE.out.drewN _).drewN _⟩
          · rename_i hd
            have h3 : xp[kp] = yp[kp] := by simpa using hd
            exact ⟨⟨kp + 1, by omega, by go_num, Lib.hid (take_succ_eq hlt hlt2 HTp.out h3), _, rfl⟩, by simp [intOf]; omega⟩
        · have Tp := Lib.hid (eq_of_take (k := kp) (by omega) Lp.out HTp.out)
          clear HTp
          go_wp2
          go_loopw [7] (fun i wr => ∃ k : Nat, k ≤ xk.length ∧ i = .int .i64 k ∧ Hid (xk.take k = yk.take k) ∧ ∃ n, wr = W.drewN n) (fun i _ => xk.length - (intOf i).toNat)
          case atStart => exact ⟨0, Nat.zero_le _, rfl, Lib.hid rfl, n1, rfl⟩
          case round =>
            obtain ⟨kk, hk, rfl, HTk, n2, rfl⟩ := hrel
            by_cases hlt : kk < xk.length
            · have hlt2 : kk < yk.length := by rw [← Lk.out]; exact hlt
              obtain ⟨b1, o1, rfl, hb1, hx1⟩ := hrak (by omega)
              obtain ⟨b2, o2, rfl, hb2, hx2⟩ := hrbk (by omega)
              have p0 := hx1 kk _ (List.getElem?_eq_getElem hlt) 0 _ rfl
              have q0 := hx2 kk _ (List.getElem?_eq_getElem hlt2) 0 _ rfl
              have p1 := hx1 kk _ (List.getElem?_eq_getElem hlt) 1 _ rfl
              have q1 := hx2 kk _ (List.getElem?_eq_getElem hlt2) 1 _ rfl
              have p2 := hx1 kk _ (List.getElem?_eq_getElem hlt) 2 _ rfl
              have q2 := hx2 kk _ (List.getElem?_eq_getElem hlt2) 2 _ rfl
              clear hx1 hx2 hrak hrbk hrag hrbg
              simp only [Nat.add_zero] at p0 q0
              have hne := fun W => neqKey W xk[kk] yk[kk]
              go_wp2
              go_quiet (fail)
              go_wp2
              · rename_i hd
                have h3 : ¬ xk[kk] = yk[kk] := by simpa using hd
                go_ret
                exact ⟨ret_bool (by rw [decide_eq_true Ti.out, decide_eq_true Tp.out, decide_eq_false (ne_of_at hlt hlt2 h3)] <;> simp), (HE.out.drewN _).drewN _⟩
              · rename_i hd
                have h3 : xk[kk] = yk[kk] := by simpa using hd
                exact ⟨⟨kk + 1, by omega, by go_num, Lib.hid (take_succ_eq hlt hlt2 HTk.out h3), _, rfl⟩, by simp [intOf]; omega⟩
            · have Tk := Lib.hid (eq_of_take (k := kk) (by omega) Lk.out HTk.out)
              clear HTk
              go_wp2
              go_loopw [8] (fun i wr => ∃ k : Nat, k ≤ xg.length ∧ i = .int .i64 k ∧ Hid (xg.take k = yg.take k) ∧ ∃ n, wr = W.drewN n) (fun i _ => xg.length - (intOf i).toNat)
              case atStart => exact ⟨0, Nat.zero_le _, rfl, Lib.hid rfl, n2, rfl⟩
              case round =>
                obtain ⟨kg, hk, rfl, HTg, n3, rfl⟩ := hrel
                by_cases hlt : kg < xg.length
                · have hlt2 : kg < yg.length := by rw [← Lg.out]; exact hlt
                  obtain ⟨b1, o1, rfl, hb1, hx1⟩ := hrag (by omega)
                  obtain ⟨b2, o2, rfl, hb2, hx2⟩ := hrbg (by omega)
                  have p0 := hx1 kg _ (List.getElem?_eq_getElem hlt) 0 _ rfl
                  have q0 := hx2 kg _ (List.getElem?_eq_getElem hlt2) 0 _ rfl
                  have p1 := hx1 kg _ (List.getElem?_eq_getElem hlt) 1 _ rfl
                  have q1 := hx2 kg _ (List.getElem?_eq_getElem hlt2) 1 _ rfl
                  have p2 := hx1 kg _ (List.getElem?_eq_getElem hlt) 2 _ rfl
                  have q2 := hx2 kg _ (List.getElem?_eq_getElem hlt2) 2 _ rfl
                  have p3 := hx1 kg _ (List.getElem?_eq_getElem hlt) 3 _ rfl
                  have q3 := hx2 kg _ (List.getElem?_eq_getElem hlt2) 3 _ rfl
                  clear hx1 hx2 hrag hrbg
                  simp only [Nat.add_zero] at p0 q0
                  have hne := fun W => neqGuard W xg[kg] yg[kg]
                  go_wp2
                  go_quiet (fail)
                  go_wp2
                  · rename_i hd
                    have h3 : ¬ xg[kg] = yg[kg] := by simpa using hd
                    go_ret
                    exact ⟨ret_bool (by rw [decide_eq_true Ti.out, decide_eq_true Tp.out, decide_eq_true Tk.out, decide_eq_false (ne_of_at hlt hlt2 h3)] <;> simp), (HE.out.drewN _).drewN _⟩
                  · rename_i hd
                    have h3 : xg[kg] = yg[kg] := by simpa using hd
                    exact ⟨⟨kg + 1, by omega, by go_num, Lib.hid (take_succ_eq hlt hlt2 HTg.out h3), _, rfl⟩, by simp [intOf]; omega⟩
                · have Tg := Lib.hid (eq_of_take (k := kg) (by omega) Lg.out HTg.out)
                  clear HTg
                  go_wp2
                  go_ret
                  exact ⟨ret_bool (by rw [decide_eq_true Ti.out, decide_eq_true Tp.out, decide_eq_true Tk.out, decide_eq_true Tg.out] <;> rfl), HE.out.drewN _⟩
end Go.Proofs.Ytagdompikjhnoaa
