/- Right of the reference: what it answers. -/
import Derived.Test.YtagdompikjhnoaaRefIns
import Derived.Test.YtagdompikjhnoaaRefTargets
import Derived.StillTailTactics
namespace Go.Proofs.Ytagdompikjhnoaa
open Go.RowKit

theorem all_snoc_true {α : Type} {p : α → Bool} {l : List α} {k : Nat} (h : k < l.length) (h1 : (l.take k).all p = true) (h2 : p l[k] = true) : (l.take (k + 1)).all p = true := by
  rw [List.take_succ_eq_append_getElem h, List.all_append, h1]; simp [h2]
theorem all_false_at {α : Type} {p : α → Bool} {l : List α} {k : Nat} (h : k < l.length) (h2 : p l[k] = false) : l.all p = false := by
  rw [← Bool.not_eq_true, List.all_eq_true]; intro ha; have := ha _ (List.getElem_mem h); rw [h2] at this; cases this
def refPre (c : CodeD) : Bool := inB c.kind 0 255 && inB c.length 0 1024 && inB c.regs 0 4096 && decide (c.name.size ≤ 65536) && decide (c.ins.length ≤ 65536) && decide (c.pool.length ≤ 65536) && decide (c.keys.length ≤ 65536) && decide (c.guards.length ≤ 65536)
def refAll (c : CodeD) : Bool := c.ins.all (insB c) && c.pool.all constB && c.keys.all keyB && c.guards.all (guardB c)
theorem right_ref (c : CodeD) : rightB c = (refPre c && refAll c) := by
  unfold rightB preB refPre refAll evB
  cases inB c.kind 0 255 <;> cases inB c.length 0 1024 <;> cases inB c.regs 0 4096 <;> cases decide (c.name.size ≤ 65536) <;> cases decide (c.ins.length ≤ 65536) <;> cases decide (c.pool.length ≤ 65536) <;> cases decide (c.keys.length ≤ 65536) <;> cases decide (c.guards.length ≤ 65536) <;> simp
  cases c.ins.all (insB c) <;> cases c.pool.all constB <;> cases c.keys.all keyB <;> simp

set_option maxHeartbeats 8000000 in
set_option maxRecDepth 100000 in
theorem refRight_pre (v : Value) (c : CodeD) (w : World) (h : IsCode w v c) (hp : refPre c = false) :
    Calls Try.prog 19 #[v] w fun e w' => e = .returned (.bool false) ∧ Ext w w' := by
  obtain ⟨vi, vp, vk, vg, rfl, ⟨A1, c1, rfl, hc1, hm1, -⟩, ⟨A2, c2, rfl, hc2, hm2, -⟩, ⟨A3, c3, rfl, hc3, hm3, -⟩, ⟨A4, c4, rfl, hc4, hm4, -⟩⟩ := h
  have key : c.kind < 0 ∨ 0 ≤ c.kind ∧ (255 < c.kind ∨ c.kind ≤ 255 ∧ (c.length < 0 ∨ 0 ≤ c.length ∧ (1024 < c.length ∨ c.length ≤ 1024 ∧ (c.regs < 0 ∨ 0 ≤ c.regs ∧ (4096 < c.regs ∨ c.regs ≤ 4096 ∧ (65536 < c.name.size ∨ c.name.size ≤ 65536 ∧ (65536 < c.ins.length ∨ c.ins.length ≤ 65536 ∧ (65536 < c.pool.length ∨ c.pool.length ≤ 65536 ∧ (65536 < c.keys.length ∨ c.keys.length ≤ 65536 ∧ 65536 < c.guards.length))))))))) := by
    unfold refPre at hp
    rw [← Bool.not_eq_true] at hp
    simp only [Bool.and_eq_true, decide_eq_true_eq, inB] at hp
    omega
  clear hp
  rcases key with h | ⟨g1, h | ⟨g2, h | ⟨g3, h | ⟨g4, h | ⟨g5, h | ⟨g6, h | ⟨g7, h | ⟨g8, h | ⟨g9, h | ⟨g10, h⟩⟩⟩⟩⟩⟩⟩⟩⟩⟩
  all_goals
    go_enter Try.func19, Try.ntmps19
    go_wp2_with fail
    go_ret
    exact ⟨rfl, (Ext.refl w).alloc _⟩

set_option maxHeartbeats 8000000 in
set_option maxRecDepth 100000 in
theorem refRight_core (v : Value) (c : CodeD) (w : World) (h : IsCode w v c) (hin : InRange c) (g1 : 0 ≤ c.kind) (g2 : c.kind ≤ 255) (g3 : 0 ≤ c.length) (g4 : c.length ≤ 1024) (hr0 : 0 ≤ c.regs) (hr1 : c.regs ≤ 4096) (g7 : c.name.size ≤ 65536)
    (g8 : c.ins.length ≤ 65536) (g9 : c.pool.length ≤ 65536) (g10 : c.keys.length ≤ 65536) (g11 : c.guards.length ≤ 65536) :
    Calls Try.prog 19 #[v] w fun e w' => e = .returned (.bool (refAll c)) ∧ Ext w w' := by
  have HC := Lib.hid h
  have HIN := Lib.hid hin
  clear hin
  obtain ⟨vi, vp, vk, vg, rfl, ⟨A1, c1, rfl, hc1, hm1, hq1⟩, ⟨A2, c2, rfl, hc2, hm2, hq2⟩, ⟨A3, c3, rfl, hc3, hm3, hq3⟩, ⟨A4, c4, rfl, hc4, hm4, hq4⟩⟩ := h
  have HE : Hid (Ext w (w.alloc (.cells #[.string c.name, .int .i64 c.kind, .int .i64 c.length, .int .i64 c.regs, .slice A1 c.ins.length c1, .slice A2 c.pool.length c2, .slice A3 c.keys.length c3, .slice A4 c.guards.length c4] 31))) := Lib.hid ((Ext.refl w).alloc _)
  have HB := Lib.hid (Blk.new w 31 #[.string c.name, .int .i64 c.kind, .int .i64 c.length, .int .i64 c.regs, .slice A1 c.ins.length c1, .slice A2 c.pool.length c2, .slice A3 c.keys.length c3, .slice A4 c.guards.length c4])
  go_enter Try.func19, Try.ntmps19
  go_wp2_with fail
  clear g1 g2 g3 g4 g7 g8 g9 g10 g11
  generalize w.alloc (.cells #[.string c.name, .int .i64 c.kind, .int .i64 c.length, .int .i64 c.regs, .slice A1 c.ins.length c1, .slice A2 c.pool.length c2, .slice A3 c.keys.length c3, .slice A4 c.guards.length c4] 31) = W at HE HB ⊢
  go_loopw [3] (fun i wr => ∃ k : Nat, k ≤ c.ins.length ∧ i = .int .i64 k ∧ Hid ((c.ins.take k).all (insB c) = true) ∧ Ext W wr) (fun i _ => c.ins.length - (intOf i).toNat)
  case atStart => exact ⟨0, Nat.zero_le _, rfl, Lib.hid rfl, Ext.refl _⟩
  case round =>
    obtain ⟨ki, hk, rfl, HT, hE⟩ := hrel
    have HF := Lib.hid (HE.out.trans hE)
    have HB2 := Lib.hid (HB.out.ext hE)
    have HG := Lib.hid hE
    have cB := HB2.out.cells
    clear hE
    by_cases hlt : ki < c.ins.length
    · obtain ⟨b, o, rfl, hb, hx⟩ := hq1 (by omega)
      have p0 : wr.cell? ⟨b, o + ki * 4, none⟩ = some (.int .i64 c.ins[ki].a) := (HF.out.cell (p := ⟨b, _, none⟩) hb).trans (hx ki _ (List.getElem?_eq_getElem hlt) 0 _ rfl)
      have p1 : wr.cell? ⟨b, o + ki * 4 + 1, none⟩ = some (.int .i64 c.ins[ki].b) := (HF.out.cell (p := ⟨b, _, none⟩) hb).trans (hx ki _ (List.getElem?_eq_getElem hlt) 1 _ rfl)
      have p2 : wr.cell? ⟨b, o + ki * 4 + 2, none⟩ = some (.int .i64 c.ins[ki].c) := (HF.out.cell (p := ⟨b, _, none⟩) hb).trans (hx ki _ (List.getElem?_eq_getElem hlt) 2 _ rfl)
      have p3 : wr.cell? ⟨b, o + ki * 4 + 3, none⟩ = some (.int .i64 c.ins[ki].d) := (HF.out.cell (p := ⟨b, _, none⟩) hb).trans (hx ki _ (List.getElem?_eq_getElem hlt) 3 _ rfl)
      have hw : b < wr.heap.size := Nat.lt_of_lt_of_le hb HF.out.size
      clear hx hq1 hq2 hq3 hq4
      go_wp2_with fail
      go_still_tail 6, (by kernel_rfl)
      change wpList _ _ _ _ _ wr.drew
      have HFd := Lib.hid HF.out.drew
      have HGd := Lib.hid HG.out.drew
      generalize wr.drew = wd at HFd HGd ⊢
      have hxx := HIN.out _ (List.getElem_mem hlt)
      go_wp2_with fail
      refine (rins_any c c.ins[ki] _ _ (HC.out.mono HFd.out) hr0 hr1 hxx.1 hxx.2.1 hxx.2.2).mono ?_
      rintro e w1 ⟨rfl, hb1⟩
      have HF2 := Lib.hid (HFd.out.trans hb1)
      have HG2 := Lib.hid (HGd.out.trans hb1)
      clear hb1 hxx
      cases hd : insB c c.ins[ki]
      · have HV := Lib.hid (all_false_at (p := (insB c)) hlt hd)
        clear hd
        go_wp2_with fail
        go_ret
        exact ⟨ret_bool (by unfold refAll; rw [HV.out] <;> simp), HF2.out⟩
      · have HV := Lib.hid (all_snoc_true (p := (insB c)) hlt HT.out hd)
        clear hd
        go_wp2_with fail
        exact ⟨⟨ki + 1, by omega, by go_num, HV, HG2.out⟩, by simp [intOf]; omega⟩
    · have Ti := Lib.hid (show c.ins.all (insB c) = true by have := HT.out; rwa [List.take_of_length_le (by omega)] at this)
      clear HT hq1
      replace HE := HF
      replace HB := HB2
      clear HF HB2 HG
      obtain ⟨W1, rfl⟩ : ∃ W1 : World, W1 = wr := ⟨_, rfl⟩
      go_wp2_with fail
      clear cB
      go_loopw [4] (fun i wr => ∃ k : Nat, k ≤ c.pool.length ∧ i = .int .i64 k ∧ Hid ((c.pool.take k).all constB = true) ∧ Ext W1 wr) (fun i _ => c.pool.length - (intOf i).toNat)
      case atStart => exact ⟨0, Nat.zero_le _, rfl, Lib.hid rfl, Ext.refl _⟩
      case round =>
        obtain ⟨kp, hk, rfl, HT, hE⟩ := hrel
        have HF := Lib.hid (HE.out.trans hE)
        have HB2 := Lib.hid (HB.out.ext hE)
        have HG := Lib.hid hE
        have cB := HB2.out.cells
        clear hE
        by_cases hlt : kp < c.pool.length
        · obtain ⟨b, o, rfl, hb, hx⟩ := hq2 (by omega)
          have p0 : wr.cell? ⟨b, o + kp * 3, none⟩ = some (.int .i64 c.pool[kp].k) := (HF.out.cell (p := ⟨b, _, none⟩) hb).trans (hx kp _ (List.getElem?_eq_getElem hlt) 0 _ rfl)
          have p1 : wr.cell? ⟨b, o + kp * 3 + 1, none⟩ = some (.int .i64 c.pool[kp].n) := (HF.out.cell (p := ⟨b, _, none⟩) hb).trans (hx kp _ (List.getElem?_eq_getElem hlt) 1 _ rfl)
          have p2 : wr.cell? ⟨b, o + kp * 3 + 2, none⟩ = some (.string c.pool[kp].s) := (HF.out.cell (p := ⟨b, _, none⟩) hb).trans (hx kp _ (List.getElem?_eq_getElem hlt) 2 _ rfl)
          have hw : b < wr.heap.size := Nat.lt_of_lt_of_le hb HF.out.size
          clear hx hq2 hq3 hq4
          go_wp2_with fail
          refine (rconstant_any c.pool[kp] _).mono ?_
          rintro e w1 ⟨rfl, hb1⟩
          have HF2 := Lib.hid (HF.out.trans hb1)
          have HG2 := Lib.hid (HG.out.trans hb1)
          clear hb1
          cases hd : constB c.pool[kp]
          · have HV := Lib.hid (all_false_at (p := constB) hlt hd)
            clear hd
            go_wp2_with fail
            go_ret
            exact ⟨ret_bool (by unfold refAll; rw [Ti.out, HV.out] <;> simp), HF2.out⟩
          · have HV := Lib.hid (all_snoc_true (p := constB) hlt HT.out hd)
            clear hd
            go_wp2_with fail
            exact ⟨⟨kp + 1, by omega, by go_num, HV, HG2.out⟩, by simp [intOf]; omega⟩
        · have Tp := Lib.hid (show c.pool.all constB = true by have := HT.out; rwa [List.take_of_length_le (by omega)] at this)
          clear HT hq2
          replace HE := HF
          replace HB := HB2
          clear HF HB2 HG
          obtain ⟨W2, rfl⟩ : ∃ W2 : World, W2 = wr := ⟨_, rfl⟩
          go_wp2_with fail
          clear cB
          go_loopw [5] (fun i wr => ∃ k : Nat, k ≤ c.keys.length ∧ i = .int .i64 k ∧ Hid ((c.keys.take k).all keyB = true) ∧ Ext W2 wr) (fun i _ => c.keys.length - (intOf i).toNat)
          case atStart => exact ⟨0, Nat.zero_le _, rfl, Lib.hid rfl, Ext.refl _⟩
          case round =>
            obtain ⟨kk, hk, rfl, HT, hE⟩ := hrel
            have HF := Lib.hid (HE.out.trans hE)
            have HB2 := Lib.hid (HB.out.ext hE)
            have HG := Lib.hid hE
            have cB := HB2.out.cells
            clear hE
            by_cases hlt : kk < c.keys.length
            · obtain ⟨b, o, rfl, hb, hx⟩ := hq3 (by omega)
              have p0 : wr.cell? ⟨b, o + kk * 3, none⟩ = some (.int .i64 c.keys[kk].k) := (HF.out.cell (p := ⟨b, _, none⟩) hb).trans (hx kk _ (List.getElem?_eq_getElem hlt) 0 _ rfl)
              have p1 : wr.cell? ⟨b, o + kk * 3 + 1, none⟩ = some (.int .i64 c.keys[kk].n) := (HF.out.cell (p := ⟨b, _, none⟩) hb).trans (hx kk _ (List.getElem?_eq_getElem hlt) 1 _ rfl)
              have p2 : wr.cell? ⟨b, o + kk * 3 + 2, none⟩ = some (.string c.keys[kk].s) := (HF.out.cell (p := ⟨b, _, none⟩) hb).trans (hx kk _ (List.getElem?_eq_getElem hlt) 2 _ rfl)
              have hw : b < wr.heap.size := Nat.lt_of_lt_of_le hb HF.out.size
              clear hx hq3 hq4
              go_wp2_with fail
              refine (refKeyRight_any c.keys[kk] _).mono ?_
              rintro e w1 ⟨rfl, hb1⟩
              have HF2 := Lib.hid (HF.out.trans hb1)
              have HG2 := Lib.hid (HG.out.trans hb1)
              clear hb1
              cases hd : keyB c.keys[kk]
              · have HV := Lib.hid (all_false_at (p := keyB) hlt hd)
                clear hd
                go_wp2_with fail
                go_ret
                exact ⟨ret_bool (by unfold refAll; rw [Ti.out, Tp.out, HV.out] <;> simp), HF2.out⟩
              · have HV := Lib.hid (all_snoc_true (p := keyB) hlt HT.out hd)
                clear hd
                go_wp2_with fail
                exact ⟨⟨kk + 1, by omega, by go_num, HV, HG2.out⟩, by simp [intOf]; omega⟩
            · have Tk := Lib.hid (show c.keys.all keyB = true by have := HT.out; rwa [List.take_of_length_le (by omega)] at this)
              clear HT hq3
              replace HE := HF
              replace HB := HB2
              clear HF HB2 HG
              obtain ⟨W3, rfl⟩ : ∃ W3 : World, W3 = wr := ⟨_, rfl⟩
              go_wp2_with fail
              clear cB
              go_loopw [6] (fun i wr => ∃ k : Nat, k ≤ c.guards.length ∧ i = .int .i64 k ∧ Hid ((c.guards.take k).all (guardB c) = true) ∧ Ext W3 wr) (fun i _ => c.guards.length - (intOf i).toNat)
              case atStart => exact ⟨0, Nat.zero_le _, rfl, Lib.hid rfl, Ext.refl _⟩
              case round =>
                obtain ⟨kg, hk, rfl, HT, hE⟩ := hrel
                have HF := Lib.hid (HE.out.trans hE)
                have HB2 := Lib.hid (HB.out.ext hE)
                have HG := Lib.hid hE
                have cB := HB2.out.cells
                clear hE
                by_cases hlt : kg < c.guards.length
                · obtain ⟨b, o, rfl, hb, hx⟩ := hq4 (by omega)
                  have p0 : wr.cell? ⟨b, o + kg * 4, none⟩ = some (.int .i64 c.guards[kg].a) := (HF.out.cell (p := ⟨b, _, none⟩) hb).trans (hx kg _ (List.getElem?_eq_getElem hlt) 0 _ rfl)
                  have p1 : wr.cell? ⟨b, o + kg * 4 + 1, none⟩ = some (.int .i64 c.guards[kg].b) := (HF.out.cell (p := ⟨b, _, none⟩) hb).trans (hx kg _ (List.getElem?_eq_getElem hlt) 1 _ rfl)
                  have p2 : wr.cell? ⟨b, o + kg * 4 + 2, none⟩ = some (.int .i64 c.guards[kg].c) := (HF.out.cell (p := ⟨b, _, none⟩) hb).trans (hx kg _ (List.getElem?_eq_getElem hlt) 2 _ rfl)
                  have p3 : wr.cell? ⟨b, o + kg * 4 + 3, none⟩ = some (.int .i64 c.guards[kg].d) := (HF.out.cell (p := ⟨b, _, none⟩) hb).trans (hx kg _ (List.getElem?_eq_getElem hlt) 3 _ rfl)
                  have hw : b < wr.heap.size := Nat.lt_of_lt_of_le hb HF.out.size
                  clear hx hq4
                  have HFa : Hid (Ext w (wr.alloc (.cells #[.int .i64 c.guards[kg].a, .int .i64 c.guards[kg].b, .int .i64 c.guards[kg].c, .int .i64 c.guards[kg].d] 61))) := Lib.hid (HF.out.alloc _)
                  have HGa : Hid (Ext W3 (wr.alloc (.cells #[.int .i64 c.guards[kg].a, .int .i64 c.guards[kg].b, .int .i64 c.guards[kg].c, .int .i64 c.guards[kg].d] 61))) := Lib.hid (HG.out.alloc _)
                  have HBa := Lib.hid (HB2.out.alloc (.cells #[.int .i64 c.guards[kg].a, .int .i64 c.guards[kg].b, .int .i64 c.guards[kg].c, .int .i64 c.guards[kg].d] 61))
                  have HXa := Lib.hid (Blk.new wr 61 #[.int .i64 c.guards[kg].a, .int .i64 c.guards[kg].b, .int .i64 c.guards[kg].c, .int .i64 c.guards[kg].d])
                  have cBa := HBa.out.cells
                  have hltB := HB2.out.lt
                  have hneB : w.heap.size ≠ wr.heap.size := by omega
                  rcases (by omega : c.guards[kg].a < 0 ∨ 0 ≤ c.guards[kg].a ∧ (c.guards[kg].b ≤ c.guards[kg].a ∨ c.guards[kg].a < c.guards[kg].b ∧ ((c.ins.length : Int) < c.guards[kg].b ∨ c.guards[kg].b ≤ c.ins.length))) with g | ⟨t1, g | ⟨t2, g | t3⟩⟩
                  · have HV := Lib.hid (all_false_at (p := (guardB c)) hlt (by unfold guardB; rw [decide_eq_false (by omega : ¬ 0 ≤ c.guards[kg].a)]; rfl))
                    go_wp2_with fail
                    go_ret
                    exact ⟨ret_bool (by unfold refAll; rw [Ti.out, Tp.out, Tk.out, HV.out] <;> simp), HFa.out⟩
                  · have HV := Lib.hid (all_false_at (p := (guardB c)) hlt (by unfold guardB; rw [decide_eq_false (by omega : ¬ c.guards[kg].a < c.guards[kg].b)]; simp))
                    go_wp2_with fail
                    go_ret
                    exact ⟨ret_bool (by unfold refAll; rw [Ti.out, Tp.out, Tk.out, HV.out] <;> simp), HFa.out⟩
                  · have HV := Lib.hid (all_false_at (p := (guardB c)) hlt (by unfold guardB; rw [decide_eq_false (by omega : ¬ c.guards[kg].b ≤ c.ins.length)]; simp))
                    go_wp2_with fail
                    go_ret
                    exact ⟨ret_bool (by unfold refAll; rw [Ti.out, Tp.out, Tk.out, HV.out] <;> simp), HFa.out⟩
                  · go_wp2_with fail
                    generalize wr.alloc (.cells #[.int .i64 c.guards[kg].a, .int .i64 c.guards[kg].b, .int .i64 c.guards[kg].c, .int .i64 c.guards[kg].d] 61) = wa at HFa HGa HBa HXa ⊢
                    refine (rpart_106 _ c c.guards[kg].c _ (HC.out.mono HFa.out)).mono ?_
                    rintro e w1 ⟨rfl, hb1⟩
                    replace HFa := Lib.hid (HFa.out.trans hb1)
                    replace HGa := Lib.hid (HGa.out.trans hb1)
                    replace HBa := Lib.hid (HBa.out.ext hb1)
                    replace HXa := Lib.hid (HXa.out.ext hb1)
                    clear hb1 cBa cB p0 p1 p2 p3
                    have c5 := HBa.out.cells
                    have c6 := HXa.out.cells
                    cases hd : inB c.guards[kg].c 0 ((c.ins.length : Int) - 1)
                    · have HV := Lib.hid (all_false_at (p := (guardB c)) hlt (by unfold guardB; rw [hd]; simp))
                      clear hd
                      go_wp2_with fail
                      go_ret
                      exact ⟨ret_bool (by unfold refAll; rw [Ti.out, Tp.out, Tk.out, HV.out] <;> simp), HFa.out⟩
                    have HD := Lib.hid hd
                    clear hd
                    go_wp2_with fail
                    refine (rpart_114 _ c c.guards[kg].d _ (HC.out.mono HFa.out)).mono ?_
                    rintro e w1 ⟨rfl, hb1⟩
                    replace HFa := Lib.hid (HFa.out.trans hb1)
                    replace HGa := Lib.hid (HGa.out.trans hb1)
                    clear hb1 c5 c6
                    cases hd : inB c.guards[kg].d 0 (c.regs - 1)
                    · have HV := Lib.hid (all_false_at (p := (guardB c)) hlt (by unfold guardB; rw [hd]; simp))
                      clear hd
                      go_wp2_with fail
                      go_ret
                      exact ⟨ret_bool (by unfold refAll; rw [Ti.out, Tp.out, Tk.out, HV.out] <;> simp), HFa.out⟩
                    · have HV := Lib.hid (all_snoc_true (p := (guardB c)) hlt HT.out (by unfold guardB; rw [hd, HD.out, decide_eq_true t1, decide_eq_true t2, decide_eq_true t3]; rfl))
                      clear hd
                      go_wp2_with fail
                      exact ⟨⟨kg + 1, by omega, by go_num, HV, HGa.out⟩, by simp [intOf]; omega⟩
                · have Tg := Lib.hid (show c.guards.all (guardB c) = true by have := HT.out; rwa [List.take_of_length_le (by omega)] at this)
                  clear HT hq4
                  replace HE := HF
                  replace HB := HB2
                  clear HF HB2 HG
                  obtain ⟨W4, rfl⟩ : ∃ W4 : World, W4 = wr := ⟨_, rfl⟩
                  go_wp2_with fail
                  clear cB
                  go_ret
                  exact ⟨ret_bool (by unfold refAll; rw [Ti.out, Tp.out, Tk.out, Tg.out] <;> rfl), HE.out⟩

theorem refRight_any (v : Value) (c : CodeD) (w : World) (h : IsCode w v c) (hin : InRange c) :
    Calls Try.prog 19 #[v] w fun e w' => e = .returned (.bool (rightB c)) ∧ Ext w w' := by
  rw [right_ref]
  cases hp : refPre c with
  | false => exact refRight_pre v c w h hp
  | true =>
    unfold refPre at hp
    simp only [Bool.and_eq_true, decide_eq_true_eq, inB] at hp
    obtain ⟨⟨⟨⟨⟨⟨⟨⟨a1, a2⟩, ⟨a3, a4⟩⟩, ⟨a5, a6⟩⟩, a7⟩, a8⟩, a9⟩, a10⟩, a11⟩ := hp
    exact refRight_core v c w h hin a1 a2 a3 a4 a5 a6 a7 a8 a9 a10 a11
end Go.Proofs.Ytagdompikjhnoaa
