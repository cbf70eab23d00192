/- CodePlaces: the walk. -/
import Derived.Test.YtagdompikjhnoaaPlaces
import Derived.Test.YtagdompikjhnoaaSmall
namespace Go.Proofs.Ytagdompikjhnoaa
open Go.RowKit

def en1 (z : Int) : List Value := [.int .i64 z]
theorem sl_of_own {w : World} {base : Nat} {v : Value} {zs : List Int} (h : w.ownsRow base 3 1 v zs.length (zs.map encI)) : Sl w 1 en1 v zs := by
  rcases h.2 with ⟨rfl, hn⟩ | ⟨g, cap, cur, rfl, -, hh, hn, hm, hs, ht⟩
  · have : zs = [] := List.eq_nil_of_length_eq_zero hn
    subst this
    exact ⟨none, 0, rfl, Nat.le_refl _, by omega, fun h => absurd h (by simp)⟩
  · unfold maxLen at hm
    refine ⟨some ⟨g, 0, none⟩, cap, rfl, hn, hm, fun h0 => ⟨g, 0, rfl, Blk.lt (t := 3) hh, fun i x hi j u hu => ?_⟩⟩
    have hb : Blk w g 3 cur := hh
    have hil : i < zs.length := (List.getElem?_eq_some_iff.1 hi).1
    match j, hu with
    | 0, hu =>
      simp only [en1, List.getElem?_cons_zero, Option.some.injEq] at hu
      subst hu
      rw [hb.cells]
      have e1 : (cur.toList.take (zs.length * 1))[i]? = (zs.map encI)[i]? := by rw [ht]
      rw [List.getElem?_take, if_pos (by omega), Array.getElem?_toList, List.getElem?_map, hi] at e1
      have e2 : 0 + i * 1 + 0 = i := by omega
      rw [e2, e1]; rfl
    | j + 1, hu => simp [en1] at hu

def PB (c : CodeD) (A1 A2 A3 A4 : Option Addr) (c1 c2 c3 c4 : Nat) : Array Value := #[.string c.name, .int .i64 c.kind, .int .i64 c.length, .int .i64 c.regs, .slice A1 c.ins.length c1, .slice A2 c.pool.length c2, .slice A3 c.keys.length c3, .slice A4 c.guards.length c4]

theorem any_snoc {α : Type} {zs : List α} (p : α → Bool) {m : Nat} (h : m < zs.length) : (zs.take (m + 1)).any p = ((zs.take m).any p || p zs[m]) := by
  rw [List.take_succ_eq_append_getElem h, List.any_append]; simp

/-- the first loop's tests at index k, decided -/
theorem asc_at {zs : List Int} (h : zs.Pairwise (· < ·)) (m : Nat) (hm : m + 1 < zs.length) : zs[m] < zs[m + 1] := by
  rw [List.pairwise_iff_getElem] at h
  exact h m (m + 1) (by omega) hm (by omega)

set_option maxHeartbeats 8000000 in
set_option maxRecDepth 100000 in
theorem codePlaces_walk (v : Value) (c : CodeD) (w : World) (h : IsCode w v c) (hin : InRange c) :
    Calls Try.prog 6 #[v] w fun e w' => e = .returned (.bool true) ∧ Ext w w' := by
  have HC := Lib.hid h
  obtain ⟨vi, vp, vk, vg, rfl, ⟨A1, c1, rfl, hc1, hm1, hr1⟩, ⟨A2, c2, rfl, -⟩, ⟨A3, c3, rfl, -⟩, ⟨A4, c4, rfl, -⟩⟩ := h
  have HIN := Lib.hid hin
  clear hin
  have HE : Hid (Ext w (w.alloc (.cells #[.string c.name, .int .i64 c.kind, .int .i64 c.length, .int .i64 c.regs, .slice A1 c.ins.length c1, .slice A2 c.pool.length c2, .slice A3 c.keys.length c3, .slice A4 c.guards.length c4] 31))) := Lib.hid ((Ext.refl w).alloc _)
  have HB := Lib.hid (Blk.new w 31 #[.string c.name, .int .i64 c.kind, .int .i64 c.length, .int .i64 c.regs, .slice A1 c.ins.length c1, .slice A2 c.pool.length c2, .slice A3 c.keys.length c3, .slice A4 c.guards.length c4])
  go_enter Try.func6, Try.ntmps6
  go_wp2_with fail
  generalize w.alloc (.cells #[.string c.name, .int .i64 c.kind, .int .i64 c.length, .int .i64 c.regs, .slice A1 c.ins.length c1, .slice A2 c.pool.length c2, .slice A3 c.keys.length c3, .slice A4 c.guards.length c4] 31) = W at HE HB ⊢
  refine (small_any _ c _ (HC.out.mono HE.out)).mono ?_
  rintro e w1 ⟨q1, rfl, hsh, hx⟩
  replace HE := Lib.hid (HE.out.trans hx)
  replace HB := Lib.hid (HB.out.ext hx)
  have cB := HB.out.cells
  clear hx
  cases q1
  · go_wp2_with fail
    refine (accE HE.out (lives_any _)).mono ?_
    rintro e w2 ⟨rfl, hx⟩
    go_wp2_with fail
    go_ret
    exact ⟨rfl, hx⟩
  obtain ⟨s1, -, -, s4⟩ := hsh rfl
  clear hsh
  go_wp2_with fail
  clear cB
  refine (targets_any _ c _ (HC.out.mono HE.out) s1 s4).mono ?_
  rintro e w2 ⟨vT, rfl, hoT, hx⟩
  replace HE := Lib.hid (HE.out.trans hx)
  replace HB := Lib.hid (HB.out.ext hx)
  obtain ⟨AT, cT, rfl, hcT, hmT, hrT⟩ := sl_of_own hoT
  have hasc := Lib.hid (targets_asc c)
  have hrng := Lib.hid (targets_rng c)
  have HJ := Lib.hid (jump_in c)
  have cB := HB.out.cells
  clear hx hoT
  generalize targetsL c = zs at hasc hrng HJ hcT hrT ⊢
  go_wp2_with fail
  go_loopw [4] (fun i wr => ∃ k : Nat, k ≤ zs.length ∧ i = .int .i64 k ∧ ∃ n, wr = w2.drewN n) (fun i _ => zs.length - (intOf i).toNat)
  case atStart => exact ⟨0, Nat.zero_le _, rfl, 0, rfl⟩
  case round =>
    obtain ⟨k, hk, rfl, n, rfl⟩ := hrel
    by_cases hlt : k < zs.length
    · obtain ⟨bT, oT, rfl, hbT, hxT⟩ := hrT (by omega)
      have hr0 := hrng.out _ (List.getElem_mem hlt)
      have p0 : w2.cell? ⟨bT, oT + k, none⟩ = some (.int .i64 zs[k]) := by
        have := hxT k _ (List.getElem?_eq_getElem hlt) 0 _ rfl
        simpa using this
      have d1 : decide (zs[k] < 0) = false := by simp; omega
      have d2 : decide ((c.ins.length : Int) ≤ zs[k]) = false := by simp; omega
      obtain ⟨t1, t2⟩ := hr0
      rcases Nat.eq_zero_or_pos k with hz | hp
      · subst hz
        clear hxT hrT hr1
        have p0' : w2.cell? ⟨bT, oT, none⟩ = some (.int .i64 zs[0]) := by simpa using p0
        have h00 : ((0 : Nat) : Int) = 0 := rfl
        rw [h00]
        go_wp2
        go_quiet (fail)
        go_wp2
        exact ⟨⟨0 + 1, by omega, by go_num, _, rfl⟩, by simp [intOf]; omega⟩
      · obtain ⟨m, rfl⟩ : ∃ m, k = m + 1 := ⟨k - 1, by omega⟩
        have p1 : w2.cell? ⟨bT, oT + m, none⟩ = some (.int .i64 zs[m]) := by
          have := hxT m _ (List.getElem?_eq_getElem (by omega : m < zs.length)) 0 _ rfl
          simpa using this
        have hm1 := asc_at hasc.out m hlt
        have d3 : decide (zs[m + 1] ≤ zs[m]) = false := by simp; omega
        clear hxT hrT hr1
        go_wp2
        go_quiet (fail)
        go_wp2
        exact ⟨⟨m + 1 + 1, by omega, by go_num, _, rfl⟩, by simp [intOf]; omega⟩
    · have HE2 := Lib.hid (HE.out.drewN n)
      have HB2 := Lib.hid (show Blk (w2.drewN n) w.heap.size 31 #[.string c.name, .int .i64 c.kind, .int .i64 c.length, .int .i64 c.regs, .slice A1 c.ins.length c1, .slice A2 c.pool.length c2, .slice A3 c.keys.length c3, .slice A4 c.guards.length c4] from HB.out)
      have HR := Lib.hid hrT
      clear hrT
      go_wp2_with fail
      refine (right_any _ c _ (HC.out.mono HE2.out) HIN.out).mono ?_
      rintro e w3 ⟨rfl, hx⟩
      have HE3 := Lib.hid (HE2.out.trans hx)
      have HB3 := Lib.hid (HB2.out.ext hx)
      have hR3 : 0 < zs.length → ∃ b o, AT = some ⟨b, o, none⟩ ∧ b < w3.heap.size ∧ ∀ (i : Nat) (z : Int), zs[i]? = some z → w3.cell? ⟨b, o + i, none⟩ = some (.int .i64 z) := by
        intro h0
        obtain ⟨b, o, e, hb, hy⟩ := HR.out h0
        refine ⟨b, o, e, Nat.lt_of_lt_of_le hb (by have := hx.size; simpa using this), fun i z hz => ?_⟩
        have h1 := hy i z hz 0 _ rfl
        rw [hx.cell (p := ⟨b, _, none⟩) (by simpa using hb)]
        simpa using h1
      have HR3 := Lib.hid hR3
      clear hx hR3 HR HB HB2 HE HE2 cB
      have cB := HB3.out.cells
      cases hq : rightB c with
      | false =>
        clear hq
        go_wp2_with fail
        refine (accE HE3.out (lives_any _)).mono ?_
        rintro e w4 ⟨rfl, hx⟩
        go_wp2_with fail
        go_ret
        exact ⟨rfl, hx⟩
      | true =>
        have HJ2 := Lib.hid (fun k hk h40 => HJ.out k hk h40 hq)
        clear hq HJ
        go_wp2_with fail
        go_loopw [5] (fun i wr => ∃ k : Nat, k ≤ c.ins.length ∧ i = .int .i64 k ∧ ∃ n, wr = w3.drewN n) (fun i _ => c.ins.length - (intOf i).toNat)
        case atStart => exact ⟨0, Nat.zero_le _, rfl, 0, rfl⟩
        case round =>
          obtain ⟨k2, hk2, rfl, n2, rfl⟩ := hrel
          by_cases hlt2 : k2 < c.ins.length
          · obtain ⟨b1, o1, rfl, hb1, hx1⟩ := hr1 (by omega)
            have p0 : w3.cell? ⟨b1, o1 + k2 * 4, none⟩ = some (.int .i64 c.ins[k2].a) := (HE3.out.cell (p := ⟨b1, _, none⟩) hb1).trans (hx1 k2 _ (List.getElem?_eq_getElem hlt2) 0 _ rfl)
            have p1 : w3.cell? ⟨b1, o1 + k2 * 4 + 1, none⟩ = some (.int .i64 c.ins[k2].b) := (HE3.out.cell (p := ⟨b1, _, none⟩) hb1).trans (hx1 k2 _ (List.getElem?_eq_getElem hlt2) 1 _ rfl)
            clear hx1 hr1
            by_cases h40 : c.ins[k2].a = 40
            · have hmem := Lib.hid (HJ2.out k2 hlt2 h40)
              have hne : (c.ins[k2].a != 40) = false := by simp [h40]
              clear h40 HJ2
              go_wp2_with fail
              go_loopw [6, 7] (fun f i wr => ∃ (m : Nat) (d : Bool), m ≤ zs.length ∧ f = .bool d ∧ i = .int .i64 m ∧ Hid (d = (zs.take m).any fun z => z == c.ins[k2].b) ∧ ∃ n, wr = w3.drewN n) (fun _ i _ => zs.length - (intOf i).toNat)
              case atStart => exact ⟨0, false, Nat.zero_le _, rfl, rfl, Lib.hid (by simp), n2, rfl⟩
              case round =>
                obtain ⟨m, d, hm, rfl, rfl, HD, n3, rfl⟩ := hrel
                by_cases hlm : m < zs.length
                · obtain ⟨bT, oT, rfl, hbT, hxT⟩ := HR3.out (by omega)
                  have p2 := hxT m _ (List.getElem?_eq_getElem hlm)
                  have HA := Lib.hid (any_snoc (fun z => z == c.ins[k2].b) hlm)
                  clear hxT
                  cases d
                  · go_wp2
                    go_quiet (fail)
                    go_wp2
                    exact ⟨⟨m + 1, _, by omega, rfl, by go_num, Lib.hid (by rw [HA.out, ← HD.out]; rfl), _, rfl⟩, by simp [intOf]; omega⟩
                  · go_wp2
                    go_quiet (fail)
                    go_wp2
                    exact ⟨⟨m + 1, true, by omega, rfl, by go_num, Lib.hid (by rw [HA.out, ← HD.out]; rfl), _, rfl⟩, by simp [intOf]; omega⟩
                · have hd : d = true := by
                    rw [HD.out, List.take_of_length_le (by omega), List.any_eq_true]
                    exact ⟨_, hmem.out, by simp⟩
                  subst hd
                  go_wp2_with fail
                  exact ⟨⟨k2 + 1, by omega, by go_num, _, rfl⟩, by simp [intOf]; omega⟩
            · have hne : (c.ins[k2].a != 40) = true := by simp [h40]
              clear h40
              go_wp2_with fail
              exact ⟨⟨k2 + 1, by omega, by go_num, _, rfl⟩, by simp [intOf]; omega⟩
          · go_wp2_with fail
            refine (accE (HE3.out.drewN _) (lives_any _)).mono ?_
            rintro e w4 ⟨rfl, hx⟩
            go_wp2_with fail
            go_ret
            exact ⟨rfl, hx⟩
end Go.Proofs.Ytagdompikjhnoaa
