/- Targets of package code: the walk. -/
import Derived.Test.YtagdompikjhnoaaTargets2
namespace Go.Proofs.Ytagdompikjhnoaa
open Go.RowKit

def isJ (p : List UInt8) (j : Nat) : Bool := p[j]? == some 106
def fld (x : I4) (j : Nat) : Int := if j = 0 then x.b else if j = 1 then x.c else x.d
def tI (c : CodeD) (x : I4) (zs : List Int) : Nat → List Int
  | 0 => zs
  | j + 1 => if isJ (pt x.a) j then nt c (tI c x zs j) (fld x j) else tI c x zs j
def tAll (c : CodeD) (k : Nat) : List Int := (c.ins.take k).foldl (fun zs x => tI c x zs 3) []
def tG (c : CodeD) (k : Nat) : List Int := (c.guards.take k).foldl (fun zs g => nt c zs g.c) (tAll c c.ins.length)
def targetsL (c : CodeD) : List Int := Lib.compact (sortL (tG c c.guards.length))

theorem nt_len (c : CodeD) (zs : List Int) (n : Int) : (nt c zs n).length ≤ zs.length + 1 := by unfold nt; split <;> simp
theorem tI_len (c : CodeD) (x : I4) (zs : List Int) : ∀ j, (tI c x zs j).length ≤ zs.length + j
  | 0 => by simp [tI]
  | j + 1 => by
    have h := tI_len c x zs j
    have h2 := nt_len c (tI c x zs j) (fld x j)
    unfold tI; split <;> omega
theorem tAll_succ (c : CodeD) (k : Nat) (h : k < c.ins.length) : tAll c (k + 1) = tI c c.ins[k] (tAll c k) 3 := by
  unfold tAll; rw [List.take_succ_eq_append_getElem h, List.foldl_append]; rfl
theorem tG_succ (c : CodeD) (k : Nat) (h : k < c.guards.length) : tG c (k + 1) = nt c (tG c k) c.guards[k].c := by
  unfold tG; rw [List.take_succ_eq_append_getElem h, List.foldl_append]; rfl
theorem tAll_len (c : CodeD) : ∀ k, k ≤ c.ins.length → (tAll c k).length ≤ 3 * k
  | 0, _ => by simp [tAll]
  | k + 1, h => by
    have h1 := tAll_len c k (by omega)
    rw [tAll_succ c k (by omega)]
    have := tI_len c c.ins[k] (tAll c k) 3
    omega
theorem tG_len (c : CodeD) : ∀ k, k ≤ c.guards.length → (tG c k).length ≤ 3 * c.ins.length + k
  | 0, _ => by have := tAll_len c c.ins.length (Nat.le_refl _); simpa [tG] using this
  | k + 1, h => by
    have h1 := tG_len c k (by omega)
    rw [tG_succ c k (by omega)]
    have := nt_len c (tG c k) c.guards[k].c
    omega

def TPost (w : World) (zs : List Int) (e : Ending) (w' : World) : Prop := ∃ v, e = .returned v ∧ w'.ownsRow w.heap.size 3 1 v zs.length (zs.map encI) ∧ Ext w w'

set_option maxHeartbeats 4000000 in
set_option maxRecDepth 100000 in
theorem targets_any1 (v : Value) (c : CodeD) (w : World) (h : IsCode w v c) (s1 : c.ins.length ≤ 201) (s2 : c.guards.length ≤ 200) :
    Calls Try.prog 21 #[v] w (TPost w (targetsL c)) := by
  have HC := Lib.hid h
  obtain ⟨vi, vp, vk, vg, rfl, ⟨A1, c1, rfl, hc1, hm1, hr1⟩, ⟨A2, c2, rfl, -⟩, ⟨A3, c3, rfl, -⟩, ⟨A4, c4, rfl, hc4, hm4, hr4⟩⟩ := h
  have hE : Ext w ((w.alloc (.cells #[.string c.name, .int .i64 c.kind, .int .i64 c.length, .int .i64 c.regs, .slice A1 c.ins.length c1, .slice A2 c.pool.length c2, .slice A3 c.keys.length c3, .slice A4 c.guards.length c4] 31)).alloc (.cells #[.slice none 0 0] 39)) := ((Ext.refl w).alloc _).alloc _
  have hT : TS w ((w.alloc (.cells #[.string c.name, .int .i64 c.kind, .int .i64 c.length, .int .i64 c.regs, .slice A1 c.ins.length c1, .slice A2 c.pool.length c2, .slice A3 c.keys.length c3, .slice A4 c.guards.length c4] 31)).alloc (.cells #[.slice none 0 0] 39)) w.heap.size (w.heap.size + 1) #[.string c.name, .int .i64 c.kind, .int .i64 c.length, .int .i64 c.regs, .slice A1 c.ins.length c1, .slice A2 c.pool.length c2, .slice A3 c.keys.length c3, .slice A4 c.guards.length c4] (tAll c 0) := by
    refine ⟨hE, (Blk.new w 31 #[.string c.name, .int .i64 c.kind, .int .i64 c.length, .int .i64 c.regs, .slice A1 c.ins.length c1, .slice A2 c.pool.length c2, .slice A3 c.keys.length c3, .slice A4 c.guards.length c4]).alloc _, Nat.le_refl _, Nat.le_succ _, .slice none 0 0, ?_, ?_⟩
    · have := Blk.new (w.alloc (.cells #[.string c.name, .int .i64 c.kind, .int .i64 c.length, .int .i64 c.regs, .slice A1 c.ins.length c1, .slice A2 c.pool.length c2, .slice A3 c.keys.length c3, .slice A4 c.guards.length c4] 31)) 39 #[.slice none 0 0]
      rwa [World.size_alloc] at this
    · exact ⟨by simp [tAll], .inl ⟨rfl, by simp [tAll]⟩⟩
  have HT := Lib.hid hT
  clear hT hE
  go_enter Try.func21, Try.ntmps21
  go_wp2_with fail
  generalize (w.alloc (.cells #[.string c.name, .int .i64 c.kind, .int .i64 c.length, .int .i64 c.regs, .slice A1 c.ins.length c1, .slice A2 c.pool.length c2, .slice A3 c.keys.length c3, .slice A4 c.guards.length c4] 31)).alloc (.cells #[.slice none 0 0] 39) = W at HT ⊢
  go_loopw [16] (fun i wr => ∃ k : Nat, k ≤ c.ins.length ∧ i = .int .i64 k ∧ Hid (TS w wr w.heap.size (w.heap.size + 1) #[.string c.name, .int .i64 c.kind, .int .i64 c.length, .int .i64 c.regs, .slice A1 c.ins.length c1, .slice A2 c.pool.length c2, .slice A3 c.keys.length c3, .slice A4 c.guards.length c4] (tAll c k))) (fun i _ => c.ins.length - (intOf i).toNat)
  case atStart => exact ⟨0, Nat.zero_le _, rfl, HT⟩
  case round =>
    clear HT
    obtain ⟨k, hk, rfl, HT⟩ := hrel
    obtain ⟨wo, rfl⟩ : ∃ wo : World, wo = wr := ⟨_, rfl⟩
    by_cases hlt : k < c.ins.length
    · obtain ⟨b, o, rfl, hb, hx⟩ := hr1 (by omega)
      have p0 : wo.cell? ⟨b, o + k * 4, none⟩ = some (.int .i64 c.ins[k].a) := (HT.out.ext.cell (p := ⟨b, _, none⟩) hb).trans (hx k _ (List.getElem?_eq_getElem hlt) 0 _ rfl)
      have p1 : wo.cell? ⟨b, o + k * 4 + 1, none⟩ = some (.int .i64 c.ins[k].b) := (HT.out.ext.cell (p := ⟨b, _, none⟩) hb).trans (hx k _ (List.getElem?_eq_getElem hlt) 1 _ rfl)
      have p2 : wo.cell? ⟨b, o + k * 4 + 2, none⟩ = some (.int .i64 c.ins[k].c) := (HT.out.ext.cell (p := ⟨b, _, none⟩) hb).trans (hx k _ (List.getElem?_eq_getElem hlt) 2 _ rfl)
      have p3 : wo.cell? ⟨b, o + k * 4 + 3, none⟩ = some (.int .i64 c.ins[k].d) := (HT.out.ext.cell (p := ⟨b, _, none⟩) hb).trans (hx k _ (List.getElem?_eq_getElem hlt) 3 _ rfl)
      have hw : b < wo.heap.size := Nat.lt_of_lt_of_le hb HT.out.ext.size
      have HT1 := Lib.hid (HT.out.ext' ((Ext.refl wo).alloc (.cells #[.int .i64 c.ins[k].a, .int .i64 c.ins[k].b, .int .i64 c.ins[k].c, .int .i64 c.ins[k].d] 42)))
      have HX1 := Lib.hid (Blk.new wo 42 #[.int .i64 c.ins[k].a, .int .i64 c.ins[k].b, .int .i64 c.ins[k].c, .int .i64 c.ins[k].d])
      clear hx hr1 hr4 HT
      go_wp2_with fail
      generalize wo.alloc (.cells #[.int .i64 c.ins[k].a, .int .i64 c.ins[k].b, .int .i64 c.ins[k].c, .int .i64 c.ins[k].d] 42) = W1 at HT1 HX1 ⊢
      clear p0 p1 p2 p3 hw
      go_loopw [27] (fun i wq => ∃ j : Int, 0 ≤ j ∧ j ≤ 3 ∧ i = .int .i64 j ∧ Hid (TS w wq w.heap.size (w.heap.size + 1) #[.string c.name, .int .i64 c.kind, .int .i64 c.length, .int .i64 c.regs, .slice (some ⟨b, o, none⟩) c.ins.length c1, .slice A2 c.pool.length c2, .slice A3 c.keys.length c3, .slice A4 c.guards.length c4] (tI c c.ins[k] (tAll c k) j.toNat)) ∧ Hid (Blk wq wo.heap.size 42 #[.int .i64 c.ins[k].a, .int .i64 c.ins[k].b, .int .i64 c.ins[k].c, .int .i64 c.ins[k].d])) (fun i _ => 3 - (intOf i).toNat)
      case atStart => exact ⟨0, by omega, by omega, rfl, HT1, HX1⟩
      case round =>
        clear HT1 HX1
        obtain ⟨j, hj0, hj3, rfl, HT2, HX2⟩ := hrel
        have cX := HX2.out.cells
        rcases (by omega : j = 0 ∨ j = 1 ∨ j = 2 ∨ j = 3) with rfl | rfl | rfl | rfl
        · -- field 0
          have HS0 : Hid (isJ (pt c.ins[k].a) 0 = false → tI c c.ins[k] (tAll c k) 1 = tI c c.ins[k] (tAll c k) 0) := Lib.hid (fun h => by simp [tI, h])
          have HS1 : Hid (isJ (pt c.ins[k].a) 0 = true → tI c c.ins[k] (tAll c k) 1 = nt c (tI c c.ins[k] (tAll c k) 0) c.ins[k].b) := Lib.hid (fun h => by simp [tI, h, fld])
          have hln : Hid ((tI c c.ins[k] (tAll c k) 0).length ≤ 100000) := Lib.hid (by have h1 := tI_len c c.ins[k] (tAll c k) 0; have h2 := tAll_len c k (by omega); omega)
          have ix : ∀ W : World, (Instr.index 66 (.agg #[.int .i64 c.ins[k].b, .int .i64 c.ins[k].c, .int .i64 c.ins[k].d]) (.int .i64 0)).run Try.prog W = .ok (.int .i64 c.ins[k].b) W := fun _ => by kernel_rfl
          go_wp2_with fail
          refine (parts_any _ _).mono ?_
          rintro e w1 ⟨rfl, hb1⟩
          have HT3 := Lib.hid (HT2.out.ext' hb1)
          have HX3 := Lib.hid (HX2.out.ext hb1)
          clear hb1 cX HT2 HX2 ix
          rcases pt_three c.ins[k].a with hp | ⟨b0, b1, b2, hp⟩
          · have hj : isJ (pt c.ins[k].a) 0 = false := by rw [hp]; rfl
            have HS := Lib.hid (HS0.out hj)
            rw [hp]
            clear hj hp HS0 HS1
            go_wp2_with fail
            exact ⟨⟨1, by omega, by omega, rfl, Lib.hid (by show TS w _ _ _ _ (tI c c.ins[k] (tAll c k) 1); rw [HS.out]; exact HT3.out), HX3⟩, by simp [intOf]⟩
          · by_cases hbj : b0 = 106
            · have hj : isJ (pt c.ins[k].a) 0 = true := by rw [hp, hbj]; rfl
              have HS := Lib.hid (HS1.out hj)
              rw [hp]
              clear hj hp HS0 HS1
              have hq : ((((({ data := #[b0, b1, b2] } : ByteArray)[0]'(by show 0 < 3; omega)).toNat : Nat) : Int) == 106) = true := by
                show ((b0.toNat : Int) == 106) = true
                rw [hbj]; rfl
              clear hbj
              go_wp2_with fail
              refine (note_any w _ _ _ _ _ c c.ins[k].b hln.out HT3.out HC.out).mono ?_
              rintro e w2 ⟨rfl, ht4, hk4⟩
              have HT4 := Lib.hid ht4
              have HX4 := Lib.hid (hk4 _ _ _ HX3.out (by decide) (by decide))
              clear ht4 hk4
              go_wp2_with fail
              exact ⟨⟨1, by omega, by omega, rfl, Lib.hid (by show TS w _ _ _ _ (tI c c.ins[k] (tAll c k) 1); rw [HS.out]; exact HT4.out), HX4⟩, by simp [intOf]⟩
            · have hj : isJ (pt c.ins[k].a) 0 = false := by rw [hp]; simp [isJ, hbj]
              have HS := Lib.hid (HS0.out hj)
              rw [hp]
              clear hj hp HS0 HS1
              have hq : ((((({ data := #[b0, b1, b2] } : ByteArray)[0]'(by show 0 < 3; omega)).toNat : Nat) : Int) == 106) = false := by
                show ((b0.toNat : Int) == 106) = false
                rw [beq_eq_false_iff_ne]
                intro h
                exact hbj (UInt8.toNat_inj.1 (by show b0.toNat = 106; omega))
              clear hbj
              go_wp2_with fail
              exact ⟨⟨1, by omega, by omega, rfl, Lib.hid (by show TS w _ _ _ _ (tI c c.ins[k] (tAll c k) 1); rw [HS.out]; exact HT3.out), HX3⟩, by simp [intOf]⟩
        · -- field 1
          have HS0 : Hid (isJ (pt c.ins[k].a) 1 = false → tI c c.ins[k] (tAll c k) 2 = tI c c.ins[k] (tAll c k) 1) := Lib.hid (fun h => by simp [tI, h])
          have HS1 : Hid (isJ (pt c.ins[k].a) 1 = true → tI c c.ins[k] (tAll c k) 2 = nt c (tI c c.ins[k] (tAll c k) 1) c.ins[k].c) := Lib.hid (fun h => by simp [tI, h, fld])
          have hln : Hid ((tI c c.ins[k] (tAll c k) 1).length ≤ 100000) := Lib.hid (by have h1 := tI_len c c.ins[k] (tAll c k) 1; have h2 := tAll_len c k (by omega); omega)
          have ix : ∀ W : World, (Instr.index 66 (.agg #[.int .i64 c.ins[k].b, .int .i64 c.ins[k].c, .int .i64 c.ins[k].d]) (.int .i64 1)).run Try.prog W = .ok (.int .i64 c.ins[k].c) W := fun _ => by kernel_rfl
          go_wp2_with fail
          refine (parts_any _ _).mono ?_
          rintro e w1 ⟨rfl, hb1⟩
          have HT3 := Lib.hid (HT2.out.ext' hb1)
          have HX3 := Lib.hid (HX2.out.ext hb1)
          clear hb1 cX HT2 HX2 ix
          rcases pt_three c.ins[k].a with hp | ⟨b0, b1, b2, hp⟩
          · have hj : isJ (pt c.ins[k].a) 1 = false := by rw [hp]; rfl
            have HS := Lib.hid (HS0.out hj)
            rw [hp]
            clear hj hp HS0 HS1
            go_wp2_with fail
            exact ⟨⟨2, by omega, by omega, rfl, Lib.hid (by show TS w _ _ _ _ (tI c c.ins[k] (tAll c k) 2); rw [HS.out]; exact HT3.out), HX3⟩, by simp [intOf]⟩
          · by_cases hbj : b1 = 106
            · have hj : isJ (pt c.ins[k].a) 1 = true := by rw [hp, hbj]; rfl
              have HS := Lib.hid (HS1.out hj)
              rw [hp]
              clear hj hp HS0 HS1
              have hq : ((((({ data := #[b0, b1, b2] } : ByteArray)[1]'(by show 1 < 3; omega)).toNat : Nat) : Int) == 106) = true := by
                show ((b1.toNat : Int) == 106) = true
                rw [hbj]; rfl
              clear hbj
              go_wp2_with fail
              refine (note_any w _ _ _ _ _ c c.ins[k].c hln.out HT3.out HC.out).mono ?_
              rintro e w2 ⟨rfl, ht4, hk4⟩
              have HT4 := Lib.hid ht4
              have HX4 := Lib.hid (hk4 _ _ _ HX3.out (by decide) (by decide))
              clear ht4 hk4
              go_wp2_with fail
              exact ⟨⟨2, by omega, by omega, rfl, Lib.hid (by show TS w _ _ _ _ (tI c c.ins[k] (tAll c k) 2); rw [HS.out]; exact HT4.out), HX4⟩, by simp [intOf]⟩
            · have hj : isJ (pt c.ins[k].a) 1 = false := by rw [hp]; simp [isJ, hbj]
              have HS := Lib.hid (HS0.out hj)
              rw [hp]
              clear hj hp HS0 HS1
              have hq : ((((({ data := #[b0, b1, b2] } : ByteArray)[1]'(by show 1 < 3; omega)).toNat : Nat) : Int) == 106) = false := by
                show ((b1.toNat : Int) == 106) = false
                rw [beq_eq_false_iff_ne]
                intro h
                exact hbj (UInt8.toNat_inj.1 (by show b1.toNat = 106; omega))
              clear hbj
              go_wp2_with fail
              exact ⟨⟨2, by omega, by omega, rfl, Lib.hid (by show TS w _ _ _ _ (tI c c.ins[k] (tAll c k) 2); rw [HS.out]; exact HT3.out), HX3⟩, by simp [intOf]⟩
        · -- field 2
          have HS0 : Hid (isJ (pt c.ins[k].a) 2 = false → tI c c.ins[k] (tAll c k) 3 = tI c c.ins[k] (tAll c k) 2) := Lib.hid (fun h => by simp [tI, h])
          have HS1 : Hid (isJ (pt c.ins[k].a) 2 = true → tI c c.ins[k] (tAll c k) 3 = nt c (tI c c.ins[k] (tAll c k) 2) c.ins[k].d) := Lib.hid (fun h => by simp [tI, h, fld])
          have hln : Hid ((tI c c.ins[k] (tAll c k) 2).length ≤ 100000) := Lib.hid (by have h1 := tI_len c c.ins[k] (tAll c k) 2; have h2 := tAll_len c k (by omega); omega)
          have ix : ∀ W : World, (Instr.index 66 (.agg #[.int .i64 c.ins[k].b, .int .i64 c.ins[k].c, .int .i64 c.ins[k].d]) (.int .i64 2)).run Try.prog W = .ok (.int .i64 c.ins[k].d) W := fun _ => by kernel_rfl
          go_wp2_with fail
          refine (parts_any _ _).mono ?_
          rintro e w1 ⟨rfl, hb1⟩
          have HT3 := Lib.hid (HT2.out.ext' hb1)
          have HX3 := Lib.hid (HX2.out.ext hb1)
          clear hb1 cX HT2 HX2 ix
          rcases pt_three c.ins[k].a with hp | ⟨b0, b1, b2, hp⟩
          · have hj : isJ (pt c.ins[k].a) 2 = false := by rw [hp]; rfl
            have HS := Lib.hid (HS0.out hj)
            rw [hp]
            clear hj hp HS0 HS1
            go_wp2_with fail
            exact ⟨⟨3, by omega, by omega, rfl, Lib.hid (by show TS w _ _ _ _ (tI c c.ins[k] (tAll c k) 3); rw [HS.out]; exact HT3.out), HX3⟩, by simp [intOf]⟩
          · by_cases hbj : b2 = 106
            · have hj : isJ (pt c.ins[k].a) 2 = true := by rw [hp, hbj]; rfl
              have HS := Lib.hid (HS1.out hj)
              rw [hp]
              clear hj hp HS0 HS1
              have hq : ((((({ data := #[b0, b1, b2] } : ByteArray)[2]'(by show 2 < 3; omega)).toNat : Nat) : Int) == 106) = true := by
                show ((b2.toNat : Int) == 106) = true
                rw [hbj]; rfl
              clear hbj
              go_wp2_with fail
              refine (note_any w _ _ _ _ _ c c.ins[k].d hln.out HT3.out HC.out).mono ?_
              rintro e w2 ⟨rfl, ht4, hk4⟩
              have HT4 := Lib.hid ht4
              have HX4 := Lib.hid (hk4 _ _ _ HX3.out (by decide) (by decide))
              clear ht4 hk4
              go_wp2_with fail
              exact ⟨⟨3, by omega, by omega, rfl, Lib.hid (by show TS w _ _ _ _ (tI c c.ins[k] (tAll c k) 3); rw [HS.out]; exact HT4.out), HX4⟩, by simp [intOf]⟩
            · have hj : isJ (pt c.ins[k].a) 2 = false := by rw [hp]; simp [isJ, hbj]
              have HS := Lib.hid (HS0.out hj)
              rw [hp]
              clear hj hp HS0 HS1
              have hq : ((((({ data := #[b0, b1, b2] } : ByteArray)[2]'(by show 2 < 3; omega)).toNat : Nat) : Int) == 106) = false := by
                show ((b2.toNat : Int) == 106) = false
                rw [beq_eq_false_iff_ne]
                intro h
                exact hbj (UInt8.toNat_inj.1 (by show b2.toNat = 106; omega))
              clear hbj
              go_wp2_with fail
              exact ⟨⟨3, by omega, by omega, rfl, Lib.hid (by show TS w _ _ _ _ (tI c c.ins[k] (tAll c k) 3); rw [HS.out]; exact HT3.out), HX3⟩, by simp [intOf]⟩
        · have HS := Lib.hid (tAll_succ c k hlt)
          go_wp2_with fail
          exact ⟨⟨k + 1, by omega, by go_num, Lib.hid (by rw [HS.out]; exact HT2.out)⟩, by simp [intOf]; omega⟩
    · have e0 : tAll c k = tG c 0 := by
        have : k = c.ins.length := by omega
        rw [this]; simp [tG]
      rw [e0] at HT
      clear e0
      have cB := HT.out.box.cells
      go_wp2_with fail
      clear cB hr1
      go_loopw [50] (fun i wq => ∃ m : Nat, m ≤ c.guards.length ∧ i = .int .i64 m ∧ Hid (TS w wq w.heap.size (w.heap.size + 1) #[.string c.name, .int .i64 c.kind, .int .i64 c.length, .int .i64 c.regs, .slice A1 c.ins.length c1, .slice A2 c.pool.length c2, .slice A3 c.keys.length c3, .slice A4 c.guards.length c4] (tG c m))) (fun i _ => c.guards.length - (intOf i).toNat)
      case atStart => exact ⟨0, Nat.zero_le _, rfl, HT⟩
      case round =>
        clear HT
        obtain ⟨m, hm, rfl, HT⟩ := hrel
        by_cases hlm : m < c.guards.length
        · obtain ⟨b, o, rfl, hb, hx⟩ := hr4 (by omega)
          have p0 : wr.cell? ⟨b, o + m * 4, none⟩ = some (.int .i64 c.guards[m].a) := (HT.out.ext.cell (p := ⟨b, _, none⟩) hb).trans (hx m _ (List.getElem?_eq_getElem hlm) 0 _ rfl)
          have p1 : wr.cell? ⟨b, o + m * 4 + 1, none⟩ = some (.int .i64 c.guards[m].b) := (HT.out.ext.cell (p := ⟨b, _, none⟩) hb).trans (hx m _ (List.getElem?_eq_getElem hlm) 1 _ rfl)
          have p2 : wr.cell? ⟨b, o + m * 4 + 2, none⟩ = some (.int .i64 c.guards[m].c) := (HT.out.ext.cell (p := ⟨b, _, none⟩) hb).trans (hx m _ (List.getElem?_eq_getElem hlm) 2 _ rfl)
          have p3 : wr.cell? ⟨b, o + m * 4 + 3, none⟩ = some (.int .i64 c.guards[m].d) := (HT.out.ext.cell (p := ⟨b, _, none⟩) hb).trans (hx m _ (List.getElem?_eq_getElem hlm) 3 _ rfl)
          have hw : b < wr.heap.size := Nat.lt_of_lt_of_le hb HT.out.ext.size
          have HT1 := Lib.hid (HT.out.ext' ((Ext.refl wr).alloc (.cells #[.int .i64 c.guards[m].a, .int .i64 c.guards[m].b, .int .i64 c.guards[m].c, .int .i64 c.guards[m].d] 61)))
          have hln : Hid ((tG c m).length ≤ 100000) := Lib.hid (by have h1 := tG_len c m (by omega); omega)
          have HS := Lib.hid (tG_succ c m hlm)
          clear hx hr4 HT
          go_wp2_with fail
          refine (note_any w _ _ _ _ _ c c.guards[m].c hln.out HT1.out HC.out).mono ?_
          rintro e w2 ⟨rfl, ht4, -⟩
          have HT4 := Lib.hid ht4
          clear ht4 HT1
          go_wp2_with fail
          exact ⟨⟨m + 1, by omega, by go_num, Lib.hid (by rw [HS.out]; exact HT4.out)⟩, by simp [intOf]; omega⟩
        · have e0 : tG c m = tG c c.guards.length := by
            have : m = c.guards.length := by omega
            rw [this]
          rw [e0] at HT
          clear e0
          have hln : Hid ((tG c c.guards.length).length ≤ 100000) := Lib.hid (by have h1 := tG_len c c.guards.length (Nat.le_refl _); omega)
          obtain ⟨sv, t1, t2⟩ := HT.out.own
          have HB3 := Lib.hid t1
          have HO := Lib.hid t2
          have q1 := t1.cells
          clear t1 t2
          go_wp2_with fail
          refine (sort_own w _ sv _ hln.out HO.out HT.out.ext).mono ?_
          rintro e w2 ⟨rfl, o2, e2, k2⟩
          have HO2 := Lib.hid o2
          have HE2 := Lib.hid e2
          have q2 := (k2 _ _ _ HB3.out (by decide)).cells
          clear o2 e2 k2 q1
          go_wp2_with fail
          refine (comp_own w _ sv _ (by rw [sortL_len]; exact hln.out) HO2.out HE2.out).mono ?_
          rintro e w3 ⟨v3, rfl, o3, e3⟩
          go_wp2_with fail
          go_ret
          exact ⟨v3, rfl, o3, e3⟩
theorem targets_any (v : Value) (c : CodeD) (w : World) (h : IsCode w v c) (s1 : c.ins.length ≤ 200) (s2 : c.guards.length ≤ 200) :
    Calls Try.prog 21 #[v] w (TPost w (targetsL c)) := targets_any1 v c w h (by omega) s2
end Go.Proofs.Ytagdompikjhnoaa
