/- constant, guardRight and 'every' of package code: what they answer. -/
import Derived.Test.YtagdompikjhnoaaIns
import Derived.Laws.EntriesVeiled
namespace Go.Proofs.Ytagdompikjhnoaa
open Go.RowKit

def constB (v : V3) : Bool :=
  if v.k = 5 then decide (v.n = 0) && decide (v.s.size ≤ 65536)
  else if v.k = 2 then inB v.n 0 1 && v.s.data.toList.isEmpty
  else if v.k = 3 then inB v.n (-9007199254740992) 9007199254740992 && v.s.data.toList.isEmpty
  else if v.k = 0 ∨ v.k = 1 ∨ v.k = 4 ∨ v.k = 8 then decide (v.n = 0) && v.s.data.toList.isEmpty else false
def guardB (c : CodeD) (g : I4) : Bool := decide (0 ≤ g.a) && decide (g.a < g.b) && decide (g.b ≤ c.ins.length) && inB g.c 0 ((c.ins.length : Int) - 1) && inB g.d 0 (c.regs - 1)

def fIdx {α : Type} (q : α → Bool) (xs : List α) : Int := match xs.findIdx? q with
  | some i => (i : Int)
  | none => -1
theorem fIdx_at {α : Type} {q : α → Bool} {xs : List α} {k : Nat} (hk : k < xs.length) (h : ∀ x ∈ xs.take k, q x = false) (hq : q xs[k] = true) : fIdx q xs = k := by
  have : xs.findIdx? q = some k := by
    rw [List.findIdx?_eq_some_iff_getElem]
    refine ⟨hk, hq, fun j hj => ?_⟩
    have hm : xs[j] ∈ xs.take k := by
      rw [List.mem_take_iff_getElem]
      exact ⟨j, by omega, rfl⟩
    simp [h _ hm]
  unfold fIdx; rw [this]
theorem fIdx_none {α : Type} {q : α → Bool} {xs : List α} (h : ∀ x ∈ xs, q x = false) : fIdx q xs = -1 := by
  have : xs.findIdx? q = none := by rw [List.findIdx?_eq_none_iff]; exact h
  unfold fIdx; rw [this]
theorem fIdx_any {α : Type} (q : α → Bool) (xs : List α) : decide (0 ≤ fIdx q xs) = xs.any q := by
  unfold fIdx
  cases h : xs.findIdx? q with
  | none =>
    rw [List.findIdx?_eq_none_iff] at h
    have : xs.any q = false := by rw [List.any_eq_false]; intro x hx; simp [h x hx]
    simp [this]
  | some i =>
    rw [List.findIdx?_eq_some_iff_getElem] at h
    obtain ⟨hi, hq, -⟩ := h
    have : xs.any q = true := by rw [List.any_eq_true]; exact ⟨xs[i], List.getElem_mem _, hq⟩
    rw [this]
    exact decide_eq_true (by show (0 : Int) ≤ (i : Int); omega)
def evB {α : Type} (p : α → Bool) (xs : List α) : Bool := decide (xs.length ≤ 65536) && xs.all p
theorem not_any {α : Type} (p : α → Bool) (xs : List α) : (!(xs.any fun x => !(p x))) = xs.all p := by
  rw [List.any_eq_not_all_not, Bool.not_not]; simp

set_option maxHeartbeats 2000000 in
set_option maxRecDepth 100000 in
theorem constant_any (v : V3) (w : World) : Calls Try.prog 30 #[keyV v] w fun e w' => e = .returned (.bool (constB v)) ∧ Ext w w' := by
  unfold keyV
  obtain ⟨kk, kn, ks⟩ := v
  go_enter Try.func30, Try.ntmps30
  go_wp2_with (go_at_call 28; refine (in_any _ _ _ _).mono ?_; rintro e w1 ⟨rfl, rfl⟩)
  all_goals
    go_ret
    refine ⟨rb ?_, (Ext.refl w).alloc _⟩
    simp_all [constB, ByteArray.toList_eq]
  all_goals (intros; first | omega | (exfalso; omega))

set_option maxHeartbeats 2000000 in
set_option maxRecDepth 100000 in
theorem guard_any (c : CodeD) (g : I4) (v : Value) (w : World) (hc : IsCode w v c) (hr0 : 0 ≤ c.regs) (hr1 : c.regs ≤ 4096) :
    Calls Try.prog 38 #[v, insV g] w fun e w' => e = .returned (.bool (guardB c g)) ∧ Ext w w' := by
  obtain ⟨vi, vp, vk, vg, rfl, ⟨A1, c1, rfl, hc1, hm1, -⟩, ⟨A2, c2, rfl, -⟩, ⟨A3, c3, rfl, -⟩, ⟨A4, c4, rfl, -⟩⟩ := id hc
  unfold insV
  have hE : Ext w ((w.alloc (.cells #[.string c.name, .int .i64 c.kind, .int .i64 c.length, .int .i64 c.regs, .slice A1 c.ins.length c1, .slice A2 c.pool.length c2, .slice A3 c.keys.length c3, .slice A4 c.guards.length c4] 31)).alloc (.cells #[.int .i64 g.a, .int .i64 g.b, .int .i64 g.c, .int .i64 g.d] 61)) := ((Ext.refl w).alloc _).alloc _
  have hA : Blk ((w.alloc (.cells #[.string c.name, .int .i64 c.kind, .int .i64 c.length, .int .i64 c.regs, .slice A1 c.ins.length c1, .slice A2 c.pool.length c2, .slice A3 c.keys.length c3, .slice A4 c.guards.length c4] 31)).alloc (.cells #[.int .i64 g.a, .int .i64 g.b, .int .i64 g.c, .int .i64 g.d] 61)) w.heap.size 31 #[.string c.name, .int .i64 c.kind, .int .i64 c.length, .int .i64 c.regs, .slice A1 c.ins.length c1, .slice A2 c.pool.length c2, .slice A3 c.keys.length c3, .slice A4 c.guards.length c4] := (Blk.new w 31 #[.string c.name, .int .i64 c.kind, .int .i64 c.length, .int .i64 c.regs, .slice A1 c.ins.length c1, .slice A2 c.pool.length c2, .slice A3 c.keys.length c3, .slice A4 c.guards.length c4]).alloc _
  have hB : Blk ((w.alloc (.cells #[.string c.name, .int .i64 c.kind, .int .i64 c.length, .int .i64 c.regs, .slice A1 c.ins.length c1, .slice A2 c.pool.length c2, .slice A3 c.keys.length c3, .slice A4 c.guards.length c4] 31)).alloc (.cells #[.int .i64 g.a, .int .i64 g.b, .int .i64 g.c, .int .i64 g.d] 61)) (w.heap.size + 1) 61 #[.int .i64 g.a, .int .i64 g.b, .int .i64 g.c, .int .i64 g.d] := by
    have := Blk.new (w.alloc (.cells #[.string c.name, .int .i64 c.kind, .int .i64 c.length, .int .i64 c.regs, .slice A1 c.ins.length c1, .slice A2 c.pool.length c2, .slice A3 c.keys.length c3, .slice A4 c.guards.length c4] 31)) 61 #[.int .i64 g.a, .int .i64 g.b, .int .i64 g.c, .int .i64 g.d]
    rwa [World.size_alloc] at this
  have HE := Lib.hid hE
  have HA := Lib.hid hA
  have HB := Lib.hid hB
  clear hE hA hB
  go_enter Try.func38, Try.ntmps38
  go_wp2_with fail
  all_goals try (go_ret; refine ⟨rb ?_, HE.out⟩; simp_all [guardB]; done)
  all_goals try (go_ret; refine ⟨rb ?_, HE.out⟩; simp_all [guardB]; intros; omega)
  have t1 : 0 ≤ g.a := by assumption
  have t2 : g.a < g.b := by assumption
  have t3 : g.b ≤ c.ins.length := by assumption
  generalize (w.alloc (.cells #[.string c.name, .int .i64 c.kind, .int .i64 c.length, .int .i64 c.regs, .slice A1 c.ins.length c1, .slice A2 c.pool.length c2, .slice A3 c.keys.length c3, .slice A4 c.guards.length c4] 31)).alloc (.cells #[.int .i64 g.a, .int .i64 g.b, .int .i64 g.c, .int .i64 g.d] 61) = W at HE HA HB ⊢
  refine (part_106 _ c g.c _ (hc.mono HE.out)).mono ?_
  rintro e w1 ⟨rfl, hb⟩
  replace HE := Lib.hid (HE.out.trans hb)
  replace HA := Lib.hid (HA.out.ext hb)
  replace HB := Lib.hid (HB.out.ext hb)
  have cA := HA.out.cells
  have cB := HB.out.cells
  clear hb
  generalize hd : inB g.c 0 ((c.ins.length : Int) - 1) = d
  have D0 := Lib.hid hd
  clear hd
  cases d
  · go_wp2_with fail
    go_ret
    exact ⟨rb (by unfold guardB; rw [D0.out, decide_eq_true t1, decide_eq_true t2, decide_eq_true t3]; rfl), HE.out⟩
  go_wp2_with fail
  clear cA cB
  refine (part_114 _ c g.d _ (hc.mono HE.out) hr0 hr1).mono ?_
  rintro e w1 ⟨rfl, hb⟩
  replace HE := Lib.hid (HE.out.trans hb)
  clear hb
  generalize hd : inB g.d 0 (c.regs - 1) = d
  have D1 := Lib.hid hd
  clear hd
  go_wp2_with fail
  go_ret
  exact ⟨rb (by unfold guardB; rw [D0.out, D1.out, decide_eq_true t1, decide_eq_true t2, decide_eq_true t3]; rfl), HE.out⟩

set_option maxHeartbeats 2000000 in
set_option maxRecDepth 100000 in
theorem ev1Value (x : V3) (bx : Nat) (w : World) (hbx : Blk w bx 53 #[.func (Fn.func 30) #[] #[]]) :
    Calls Try.prog 56 #[.agg #[.int .i64 x.k, .int .i64 x.n, .string x.s], .pointer (some ⟨bx, 0, none⟩)] w fun e w' => e = .returned (.bool (!(constB x))) ∧ Ext w w' := by
  have HE : Hid (Ext w (w.alloc (.cells #[.int .i64 x.k, .int .i64 x.n, .string x.s] 47))) := Lib.hid ((Ext.refl w).alloc _)
  have cA := (hbx.ext HE.out).cells
  have cw := hbx.cells
  have hlt := hbx.lt
  have hne : bx ≠ w.heap.size := by omega
  clear hbx
  go_enter Try.func56, Try.ntmps56
  go_wp2_with fail
  refine (accE HE.out (constant_any x _)).mono ?_
  rintro e w1 ⟨rfl, hb⟩
  have HF := Lib.hid hb
  clear hb cA cw
  go_wp2_with fail
  go_ret
  exact ⟨rfl, HF.out⟩

set_option maxHeartbeats 2000000 in
set_option maxRecDepth 100000 in
theorem ixValue (v : Value) (xs : List V3) (bx : Nat) (w : World) (hs : Sl w 3 en3 v xs) (hbx : Blk w bx 53 #[.func (Fn.func 30) #[] #[]]) :
    Calls Try.prog 69 #[v, .func (Fn.func 56) #[] #[.pointer (some ⟨bx, 0, none⟩)]] w fun e w' => e = .returned (.int .i64 (fIdx (fun x => !(constB x)) xs)) ∧ Ext w w' := by
  obtain ⟨A, cp, rfl, hc, hm, hr⟩ := hs
  have HBX := Lib.hid hbx
  clear hbx
  go_enter Try.func69, Try.ntmps69
  go_wp2_with fail
  go_loopw [8] (fun i wr => ∃ k : Nat, k ≤ xs.length ∧ i = .int .i64 k ∧ Hid (∀ x ∈ xs.take k, (!(constB x)) = false) ∧ Ext w wr) (fun i _ => xs.length - (intOf i).toNat)
  case atStart => exact ⟨0, Nat.zero_le _, rfl, Lib.hid (by simp), Ext.refl w⟩
  case round =>
    obtain ⟨k, hk, rfl, HT, hE⟩ := hrel
    by_cases hlt : k < xs.length
    · obtain ⟨b, o, rfl, hb, hy⟩ := hr (by omega)
      have p0 : wr.cell? ⟨b, o + k * 3, none⟩ = some (.int .i64 xs[k].k) := (hE.cell (p := ⟨b, _, none⟩) hb).trans (hy k _ (List.getElem?_eq_getElem hlt) 0 _ rfl)
      have p1 : wr.cell? ⟨b, o + k * 3 + 1, none⟩ = some (.int .i64 xs[k].n) := (hE.cell (p := ⟨b, _, none⟩) hb).trans (hy k _ (List.getElem?_eq_getElem hlt) 1 _ rfl)
      have p2 : wr.cell? ⟨b, o + k * 3 + 2, none⟩ = some (.string xs[k].s) := (hE.cell (p := ⟨b, _, none⟩) hb).trans (hy k _ (List.getElem?_eq_getElem hlt) 2 _ rfl)
      have hw1 : b < wr.heap.size := Nat.lt_of_lt_of_le hb hE.size
      clear hy hr
      have hcon := ev1Value xs[k] bx wr (HBX.out.ext hE)
      have HC := Lib.hid hcon
      have HE := Lib.hid hE
      clear hcon hE
      go_wp2_with fail
      refine HC.out.mono ?_
      rintro e w1 ⟨rfl, hb1⟩
      have HF := Lib.hid (HE.out.trans hb1)
      clear hb1 HC
      generalize hd : (!(constB xs[k])) = d
      have HD := Lib.hid hd
      clear hd
      cases d
      · go_wp2_with fail
        refine ⟨⟨k + 1, by omega, by go_num, Lib.hid ?_, HF.out⟩, by simp [intOf]; omega⟩
        rw [List.take_succ_eq_append_getElem hlt]
        intro x hx
        rcases List.mem_append.1 hx with hx | hx
        · exact HT.out x hx
        · rw [List.mem_singleton.1 hx]; exact HD.out
      · go_wp2_with fail
        go_ret
        refine ⟨?_, HF.out⟩
        rw [fIdx_at (q := (fun x => !(constB x))) hlt HT.out HD.out]
        rfl
    · have HE := Lib.hid hE
      clear hE
      have htk := HT.out
      rw [List.take_of_length_le (by omega)] at htk
      have HT2 := Lib.hid (fIdx_none (q := (fun x => !(constB x))) htk)
      clear htk HT
      go_wp2_with fail
      go_ret
      refine ⟨?_, HE.out⟩
      rw [HT2.out]
      rfl

theorem cfValue (v : Value) (xs : List V3) (bx : Nat) (w : World) (hs : Sl w 3 en3 v xs) (hbx : Blk w bx 53 #[.func (Fn.func 30) #[] #[]]) :
    Calls Try.prog 55 #[v, .func (Fn.func 56) #[] #[.pointer (some ⟨bx, 0, none⟩)]] w fun e w' => e = .returned (.bool (xs.any (fun x => !(constB x)))) ∧ Ext w w' := by
  rw [← fIdx_any]
  have HC := Lib.hid (ixValue v xs bx w hs hbx)
  clear hbx hs
  go_enter Try.func55, Try.ntmps55
  go_wp2_with fail
  refine HC.out.mono ?_
  rintro e w1 ⟨rfl, hb⟩
  go_wp2_with fail
  go_ret
  exact ⟨rfl, hb⟩

set_option maxHeartbeats 2000000 in
theorem evValue (v : Value) (xs : List V3) (w : World) (hs : Sl w 3 en3 v xs) :
    Calls Try.prog 29 #[v, .func (Fn.func 30) #[] #[]] w fun e w' => e = .returned (.bool (evB constB xs)) ∧ Ext w w' := by
  have HE : Hid (Ext w (w.alloc (.cells #[.func (Fn.func 30) #[] #[]] 53))) := Lib.hid ((Ext.refl w).alloc _)
  have HC := Lib.hid (accE HE.out (cfValue v xs w.heap.size _ (hs.mono HE.out) (Blk.new w 53 #[.func (Fn.func 30) #[] #[]])))
  obtain ⟨A, cp, rfl, hc, hm, -⟩ := hs
  by_cases hl : xs.length ≤ 65536
  · have e : evB constB xs = !(xs.any (fun x => !(constB x))) := by unfold evB; rw [decide_eq_true hl, not_any]; rfl
    rw [e]
    clear e
    go_enter Try.func29, Try.ntmps29
    go_wp2_with fail
    refine HC.out.mono ?_
    rintro e w1 ⟨rfl, hb⟩
    go_wp2_with fail
    go_ret
    exact ⟨rfl, hb⟩
  · have e : evB constB xs = false := by unfold evB; rw [decide_eq_false hl]; rfl
    rw [e]
    clear e HC
    go_enter Try.func29, Try.ntmps29
    go_wp2_with fail
    go_ret
    exact ⟨rfl, HE.out⟩

set_option maxHeartbeats 2000000 in
set_option maxRecDepth 100000 in
theorem ev1Key (x : V3) (bx : Nat) (w : World) (hbx : Blk w bx 55 #[.func (Fn.func 32) #[] #[]]) :
    Calls Try.prog 58 #[.agg #[.int .i64 x.k, .int .i64 x.n, .string x.s], .pointer (some ⟨bx, 0, none⟩)] w fun e w' => e = .returned (.bool (!(keyB x))) ∧ Ext w w' := by
  have HE : Hid (Ext w (w.alloc (.cells #[.int .i64 x.k, .int .i64 x.n, .string x.s] 48))) := Lib.hid ((Ext.refl w).alloc _)
  have cA := (hbx.ext HE.out).cells
  have cw := hbx.cells
  have hlt := hbx.lt
  have hne : bx ≠ w.heap.size := by omega
  clear hbx
  go_enter Try.func58, Try.ntmps58
  go_wp2_with fail
  refine (accE HE.out (keyRight_any x _)).mono ?_
  rintro e w1 ⟨rfl, hb⟩
  have HF := Lib.hid hb
  clear hb cA cw
  go_wp2_with fail
  go_ret
  exact ⟨rfl, HF.out⟩

set_option maxHeartbeats 2000000 in
set_option maxRecDepth 100000 in
theorem ixKey (v : Value) (xs : List V3) (bx : Nat) (w : World) (hs : Sl w 3 en3 v xs) (hbx : Blk w bx 55 #[.func (Fn.func 32) #[] #[]]) :
    Calls Try.prog 70 #[v, .func (Fn.func 58) #[] #[.pointer (some ⟨bx, 0, none⟩)]] w fun e w' => e = .returned (.int .i64 (fIdx (fun x => !(keyB x)) xs)) ∧ Ext w w' := by
  obtain ⟨A, cp, rfl, hc, hm, hr⟩ := hs
  have HBX := Lib.hid hbx
  clear hbx
  go_enter Try.func70, Try.ntmps70
  go_wp2_with fail
  go_loopw [8] (fun i wr => ∃ k : Nat, k ≤ xs.length ∧ i = .int .i64 k ∧ Hid (∀ x ∈ xs.take k, (!(keyB x)) = false) ∧ Ext w wr) (fun i _ => xs.length - (intOf i).toNat)
  case atStart => exact ⟨0, Nat.zero_le _, rfl, Lib.hid (by simp), Ext.refl w⟩
  case round =>
    obtain ⟨k, hk, rfl, HT, hE⟩ := hrel
    by_cases hlt : k < xs.length
    · obtain ⟨b, o, rfl, hb, hy⟩ := hr (by omega)
      have p0 : wr.cell? ⟨b, o + k * 3, none⟩ = some (.int .i64 xs[k].k) := (hE.cell (p := ⟨b, _, none⟩) hb).trans (hy k _ (List.getElem?_eq_getElem hlt) 0 _ rfl)
      have p1 : wr.cell? ⟨b, o + k * 3 + 1, none⟩ = some (.int .i64 xs[k].n) := (hE.cell (p := ⟨b, _, none⟩) hb).trans (hy k _ (List.getElem?_eq_getElem hlt) 1 _ rfl)
      have p2 : wr.cell? ⟨b, o + k * 3 + 2, none⟩ = some (.string xs[k].s) := (hE.cell (p := ⟨b, _, none⟩) hb).trans (hy k _ (List.getElem?_eq_getElem hlt) 2 _ rfl)
      have hw1 : b < wr.heap.size := Nat.lt_of_lt_of_le hb hE.size
      clear hy hr
      have hcon := ev1Key xs[k] bx wr (HBX.out.ext hE)
      have HC := Lib.hid hcon
      have HE := Lib.hid hE
      clear hcon hE
      go_wp2_with fail
      refine HC.out.mono ?_
      rintro e w1 ⟨rfl, hb1⟩
      have HF := Lib.hid (HE.out.trans hb1)
      clear hb1 HC
      generalize hd : (!(keyB xs[k])) = d
      have HD := Lib.hid hd
      clear hd
      cases d
      · go_wp2_with fail
        refine ⟨⟨k + 1, by omega, by go_num, Lib.hid ?_, HF.out⟩, by simp [intOf]; omega⟩
        rw [List.take_succ_eq_append_getElem hlt]
        intro x hx
        rcases List.mem_append.1 hx with hx | hx
        · exact HT.out x hx
        · rw [List.mem_singleton.1 hx]; exact HD.out
      · go_wp2_with fail
        go_ret
        refine ⟨?_, HF.out⟩
        rw [fIdx_at (q := (fun x => !(keyB x))) hlt HT.out HD.out]
        rfl
    · have HE := Lib.hid hE
      clear hE
      have htk := HT.out
      rw [List.take_of_length_le (by omega)] at htk
      have HT2 := Lib.hid (fIdx_none (q := (fun x => !(keyB x))) htk)
      clear htk HT
      go_wp2_with fail
      go_ret
      refine ⟨?_, HE.out⟩
      rw [HT2.out]
      rfl

theorem cfKey (v : Value) (xs : List V3) (bx : Nat) (w : World) (hs : Sl w 3 en3 v xs) (hbx : Blk w bx 55 #[.func (Fn.func 32) #[] #[]]) :
    Calls Try.prog 57 #[v, .func (Fn.func 58) #[] #[.pointer (some ⟨bx, 0, none⟩)]] w fun e w' => e = .returned (.bool (xs.any (fun x => !(keyB x)))) ∧ Ext w w' := by
  rw [← fIdx_any]
  have HC := Lib.hid (ixKey v xs bx w hs hbx)
  clear hbx hs
  go_enter Try.func57, Try.ntmps57
  go_wp2_with fail
  refine HC.out.mono ?_
  rintro e w1 ⟨rfl, hb⟩
  go_wp2_with fail
  go_ret
  exact ⟨rfl, hb⟩

set_option maxHeartbeats 2000000 in
theorem evKey (v : Value) (xs : List V3) (w : World) (hs : Sl w 3 en3 v xs) :
    Calls Try.prog 31 #[v, .func (Fn.func 32) #[] #[]] w fun e w' => e = .returned (.bool (evB keyB xs)) ∧ Ext w w' := by
  have HE : Hid (Ext w (w.alloc (.cells #[.func (Fn.func 32) #[] #[]] 55))) := Lib.hid ((Ext.refl w).alloc _)
  have HC := Lib.hid (accE HE.out (cfKey v xs w.heap.size _ (hs.mono HE.out) (Blk.new w 55 #[.func (Fn.func 32) #[] #[]])))
  obtain ⟨A, cp, rfl, hc, hm, -⟩ := hs
  by_cases hl : xs.length ≤ 65536
  · have e : evB keyB xs = !(xs.any (fun x => !(keyB x))) := by unfold evB; rw [decide_eq_true hl, not_any]; rfl
    rw [e]
    clear e
    go_enter Try.func31, Try.ntmps31
    go_wp2_with fail
    refine HC.out.mono ?_
    rintro e w1 ⟨rfl, hb⟩
    go_wp2_with fail
    go_ret
    exact ⟨rfl, hb⟩
  · have e : evB keyB xs = false := by unfold evB; rw [decide_eq_false hl]; rfl
    rw [e]
    clear e HC
    go_enter Try.func31, Try.ntmps31
    go_wp2_with fail
    go_ret
    exact ⟨rfl, HE.out⟩

set_option maxHeartbeats 2000000 in
set_option maxRecDepth 100000 in
theorem predIns (x : I4) (b1 : Nat) (c : CodeD) (row : Array Value) (hr0 : 0 ≤ c.regs) (hr1 : c.regs ≤ 4096) (w : World) (hcb : Blk w b1 31 row) (hcc : IsCode w (.agg row) c) (hx : x.b ≤ 9223372036854775807 ∧ x.c ≤ 9223372036854775807 ∧ x.d ≤ 9223372036854775807) : Calls Try.prog 34 #[.agg #[.int .i64 x.a, .int .i64 x.b, .int .i64 x.c, .int .i64 x.d], .pointer (some ⟨b1, 0, none⟩)] w fun e w' => e = .returned (.bool ((insB c) x)) ∧ Ext w w' := by
  obtain ⟨A1, A2, A3, A4, n1, n2, n3, n4, c1, c2, c3, c4, hrow⟩ := hcc.form
  injection hrow with hrow
  subst hrow
  have HE : Hid (Ext w (w.alloc (.cells #[.int .i64 x.a, .int .i64 x.b, .int .i64 x.c, .int .i64 x.d] 42))) := Lib.hid ((Ext.refl w).alloc _)
  have HB := Lib.hid (Blk.new w 42 #[.int .i64 x.a, .int .i64 x.b, .int .i64 x.c, .int .i64 x.d])
  have cA := (hcb.ext HE.out).cells
  have cw := hcb.cells
  have hlt := hcb.lt
  have hne : b1 ≠ w.heap.size := by omega
  clear hcb
  go_enter Try.func34, Try.ntmps34
  go_wp2_with fail
  refine (accE HE.out (ins_any c x _ _ (hcc.mono HE.out) hr0 hr1 hx.1 hx.2.1 hx.2.2)).mono ?_
  rintro e w1 ⟨rfl, hb⟩
  go_wp2_with fail
  go_ret
  exact ⟨rfl, hb⟩

set_option maxHeartbeats 2000000 in
set_option maxRecDepth 100000 in
theorem ev1Ins (x : I4) (b1 : Nat) (c : CodeD) (row : Array Value) (hr0 : 0 ≤ c.regs) (hr1 : c.regs ≤ 4096) (bx : Nat) (w : World) (hcb : Blk w b1 31 row) (hcc : IsCode w (.agg row) c) (hbx : Blk w bx 58 #[.func (Fn.func 34) #[] #[.pointer (some ⟨b1, 0, none⟩)]]) (hx : x.b ≤ 9223372036854775807 ∧ x.c ≤ 9223372036854775807 ∧ x.d ≤ 9223372036854775807) :
    Calls Try.prog 61 #[.agg #[.int .i64 x.a, .int .i64 x.b, .int .i64 x.c, .int .i64 x.d], .pointer (some ⟨bx, 0, none⟩)] w fun e w' => e = .returned (.bool (!((insB c) x))) ∧ Ext w w' := by
  have HE : Hid (Ext w (w.alloc (.cells #[.int .i64 x.a, .int .i64 x.b, .int .i64 x.c, .int .i64 x.d] 42))) := Lib.hid ((Ext.refl w).alloc _)
  have cA := (hbx.ext HE.out).cells
  have cw := hbx.cells
  have hlt := hbx.lt
  have hne : bx ≠ w.heap.size := by omega
  clear hbx
  go_enter Try.func61, Try.ntmps61
  go_wp2_with fail
  refine (accE HE.out (predIns x b1 c row hr0 hr1 _ (hcb.ext HE.out) (hcc.mono HE.out) hx)).mono ?_
  rintro e w1 ⟨rfl, hb⟩
  have HF := Lib.hid hb
  clear hb cA cw
  go_wp2_with fail
  go_ret
  exact ⟨rfl, HF.out⟩

set_option maxHeartbeats 2000000 in
set_option maxRecDepth 100000 in
theorem ixIns (v : Value) (xs : List I4) (b1 : Nat) (c : CodeD) (row : Array Value) (hr0 : 0 ≤ c.regs) (hr1 : c.regs ≤ 4096) (bx : Nat) (w : World) (hs : Sl w 4 en4 v xs) (hcb : Blk w b1 31 row) (hcc : IsCode w (.agg row) c) (hbx : Blk w bx 58 #[.func (Fn.func 34) #[] #[.pointer (some ⟨b1, 0, none⟩)]]) (hxs : ∀ x ∈ xs, x.b ≤ 9223372036854775807 ∧ x.c ≤ 9223372036854775807 ∧ x.d ≤ 9223372036854775807) :
    Calls Try.prog 71 #[v, .func (Fn.func 61) #[] #[.pointer (some ⟨bx, 0, none⟩)]] w fun e w' => e = .returned (.int .i64 (fIdx (fun x => !((insB c) x)) xs)) ∧ Ext w w' := by
  obtain ⟨A, cp, rfl, hc, hm, hr⟩ := hs
  have HBX := Lib.hid hbx
  clear hbx
  go_enter Try.func71, Try.ntmps71
  go_wp2_with fail
  go_loopw [8] (fun i wr => ∃ k : Nat, k ≤ xs.length ∧ i = .int .i64 k ∧ Hid (∀ x ∈ xs.take k, (!((insB c) x)) = false) ∧ Ext w wr) (fun i _ => xs.length - (intOf i).toNat)
  case atStart => exact ⟨0, Nat.zero_le _, rfl, Lib.hid (by simp), Ext.refl w⟩
  case round =>
    obtain ⟨k, hk, rfl, HT, hE⟩ := hrel
    by_cases hlt : k < xs.length
    · obtain ⟨b, o, rfl, hb, hy⟩ := hr (by omega)
      have p0 : wr.cell? ⟨b, o + k * 4, none⟩ = some (.int .i64 xs[k].a) := (hE.cell (p := ⟨b, _, none⟩) hb).trans (hy k _ (List.getElem?_eq_getElem hlt) 0 _ rfl)
      have p1 : wr.cell? ⟨b, o + k * 4 + 1, none⟩ = some (.int .i64 xs[k].b) := (hE.cell (p := ⟨b, _, none⟩) hb).trans (hy k _ (List.getElem?_eq_getElem hlt) 1 _ rfl)
      have p2 : wr.cell? ⟨b, o + k * 4 + 2, none⟩ = some (.int .i64 xs[k].c) := (hE.cell (p := ⟨b, _, none⟩) hb).trans (hy k _ (List.getElem?_eq_getElem hlt) 2 _ rfl)
      have p3 : wr.cell? ⟨b, o + k * 4 + 3, none⟩ = some (.int .i64 xs[k].d) := (hE.cell (p := ⟨b, _, none⟩) hb).trans (hy k _ (List.getElem?_eq_getElem hlt) 3 _ rfl)
      have hw1 : b < wr.heap.size := Nat.lt_of_lt_of_le hb hE.size
      clear hy hr
      have hcon := ev1Ins xs[k] b1 c row hr0 hr1 bx wr (hcb.ext hE) (hcc.mono hE) (HBX.out.ext hE) (hxs _ (List.getElem_mem hlt))
      have HC := Lib.hid hcon
      have HE := Lib.hid hE
      clear hcon hE
      go_wp2_with fail
      refine HC.out.mono ?_
      rintro e w1 ⟨rfl, hb1⟩
      have HF := Lib.hid (HE.out.trans hb1)
      clear hb1 HC
      generalize hd : (!((insB c) xs[k])) = d
      have HD := Lib.hid hd
      clear hd
      cases d
      · go_wp2_with fail
        refine ⟨⟨k + 1, by omega, by go_num, Lib.hid ?_, HF.out⟩, by simp [intOf]; omega⟩
        rw [List.take_succ_eq_append_getElem hlt]
        intro x hx
        rcases List.mem_append.1 hx with hx | hx
        · exact HT.out x hx
        · rw [List.mem_singleton.1 hx]; exact HD.out
      · go_wp2_with fail
        go_ret
        refine ⟨?_, HF.out⟩
        rw [fIdx_at (q := (fun x => !((insB c) x))) hlt HT.out HD.out]
        rfl
    · have HE := Lib.hid hE
      clear hE
      have htk := HT.out
      rw [List.take_of_length_le (by omega)] at htk
      have HT2 := Lib.hid (fIdx_none (q := (fun x => !((insB c) x))) htk)
      clear htk HT
      go_wp2_with fail
      go_ret
      refine ⟨?_, HE.out⟩
      rw [HT2.out]
      rfl

theorem cfIns (v : Value) (xs : List I4) (b1 : Nat) (c : CodeD) (row : Array Value) (hr0 : 0 ≤ c.regs) (hr1 : c.regs ≤ 4096) (bx : Nat) (w : World) (hs : Sl w 4 en4 v xs) (hcb : Blk w b1 31 row) (hcc : IsCode w (.agg row) c) (hbx : Blk w bx 58 #[.func (Fn.func 34) #[] #[.pointer (some ⟨b1, 0, none⟩)]]) (hxs : ∀ x ∈ xs, x.b ≤ 9223372036854775807 ∧ x.c ≤ 9223372036854775807 ∧ x.d ≤ 9223372036854775807) :
    Calls Try.prog 60 #[v, .func (Fn.func 61) #[] #[.pointer (some ⟨bx, 0, none⟩)]] w fun e w' => e = .returned (.bool (xs.any (fun x => !((insB c) x)))) ∧ Ext w w' := by
  rw [← fIdx_any]
  have HC := Lib.hid (ixIns v xs b1 c row hr0 hr1 bx w hs hcb hcc hbx hxs)
  clear hbx hs
  go_enter Try.func60, Try.ntmps60
  go_wp2_with fail
  refine HC.out.mono ?_
  rintro e w1 ⟨rfl, hb⟩
  go_wp2_with fail
  go_ret
  exact ⟨rfl, hb⟩

set_option maxHeartbeats 2000000 in
theorem evIns (v : Value) (xs : List I4) (b1 : Nat) (c : CodeD) (row : Array Value) (hr0 : 0 ≤ c.regs) (hr1 : c.regs ≤ 4096) (w : World) (hs : Sl w 4 en4 v xs) (hcb : Blk w b1 31 row) (hcc : IsCode w (.agg row) c) (hxs : ∀ x ∈ xs, x.b ≤ 9223372036854775807 ∧ x.c ≤ 9223372036854775807 ∧ x.d ≤ 9223372036854775807) :
    Calls Try.prog 33 #[v, .func (Fn.func 34) #[] #[.pointer (some ⟨b1, 0, none⟩)]] w fun e w' => e = .returned (.bool (evB (insB c) xs)) ∧ Ext w w' := by
  have HE : Hid (Ext w (w.alloc (.cells #[.func (Fn.func 34) #[] #[.pointer (some ⟨b1, 0, none⟩)]] 58))) := Lib.hid ((Ext.refl w).alloc _)
  have HC := Lib.hid (accE HE.out (cfIns v xs b1 c row hr0 hr1 w.heap.size _ (hs.mono HE.out) (hcb.ext HE.out) (hcc.mono HE.out) (Blk.new w 58 #[.func (Fn.func 34) #[] #[.pointer (some ⟨b1, 0, none⟩)]]) hxs))
  obtain ⟨A, cp, rfl, hc, hm, -⟩ := hs
  by_cases hl : xs.length ≤ 65536
  · have e : evB (insB c) xs = !(xs.any (fun x => !((insB c) x))) := by unfold evB; rw [decide_eq_true hl, not_any]; rfl
    rw [e]
    clear e
    go_enter Try.func33, Try.ntmps33
    go_wp2_with fail
    refine HC.out.mono ?_
    rintro e w1 ⟨rfl, hb⟩
    go_wp2_with fail
    go_ret
    exact ⟨rfl, hb⟩
  · have e : evB (insB c) xs = false := by unfold evB; rw [decide_eq_false hl]; rfl
    rw [e]
    clear e HC
    go_enter Try.func33, Try.ntmps33
    go_wp2_with fail
    go_ret
    exact ⟨rfl, HE.out⟩

set_option maxHeartbeats 2000000 in
set_option maxRecDepth 100000 in
theorem predGuard (x : I4) (b1 : Nat) (c : CodeD) (row : Array Value) (hr0 : 0 ≤ c.regs) (hr1 : c.regs ≤ 4096) (w : World) (hcb : Blk w b1 31 row) (hcc : IsCode w (.agg row) c) : Calls Try.prog 37 #[.agg #[.int .i64 x.a, .int .i64 x.b, .int .i64 x.c, .int .i64 x.d], .pointer (some ⟨b1, 0, none⟩)] w fun e w' => e = .returned (.bool ((guardB c) x)) ∧ Ext w w' := by
  obtain ⟨A1, A2, A3, A4, n1, n2, n3, n4, c1, c2, c3, c4, hrow⟩ := hcc.form
  injection hrow with hrow
  subst hrow
  have HE : Hid (Ext w (w.alloc (.cells #[.int .i64 x.a, .int .i64 x.b, .int .i64 x.c, .int .i64 x.d] 61))) := Lib.hid ((Ext.refl w).alloc _)
  have HB := Lib.hid (Blk.new w 61 #[.int .i64 x.a, .int .i64 x.b, .int .i64 x.c, .int .i64 x.d])
  have cA := (hcb.ext HE.out).cells
  have cw := hcb.cells
  have hlt := hcb.lt
  have hne : b1 ≠ w.heap.size := by omega
  clear hcb
  go_enter Try.func37, Try.ntmps37
  go_wp2_with fail
  refine (accE HE.out (guard_any c x _ _ (hcc.mono HE.out) hr0 hr1)).mono ?_
  rintro e w1 ⟨rfl, hb⟩
  go_wp2_with fail
  go_ret
  exact ⟨rfl, hb⟩

set_option maxHeartbeats 2000000 in
set_option maxRecDepth 100000 in
theorem ev1Guard (x : I4) (b1 : Nat) (c : CodeD) (row : Array Value) (hr0 : 0 ≤ c.regs) (hr1 : c.regs ≤ 4096) (bx : Nat) (w : World) (hcb : Blk w b1 31 row) (hcc : IsCode w (.agg row) c) (hbx : Blk w bx 63 #[.func (Fn.func 37) #[] #[.pointer (some ⟨b1, 0, none⟩)]]) :
    Calls Try.prog 63 #[.agg #[.int .i64 x.a, .int .i64 x.b, .int .i64 x.c, .int .i64 x.d], .pointer (some ⟨bx, 0, none⟩)] w fun e w' => e = .returned (.bool (!((guardB c) x))) ∧ Ext w w' := by
  have HE : Hid (Ext w (w.alloc (.cells #[.int .i64 x.a, .int .i64 x.b, .int .i64 x.c, .int .i64 x.d] 61))) := Lib.hid ((Ext.refl w).alloc _)
  have cA := (hbx.ext HE.out).cells
  have cw := hbx.cells
  have hlt := hbx.lt
  have hne : bx ≠ w.heap.size := by omega
  clear hbx
  go_enter Try.func63, Try.ntmps63
  go_wp2_with fail
  refine (accE HE.out (predGuard x b1 c row hr0 hr1 _ (hcb.ext HE.out) (hcc.mono HE.out))).mono ?_
  rintro e w1 ⟨rfl, hb⟩
  have HF := Lib.hid hb
  clear hb cA cw
  go_wp2_with fail
  go_ret
  exact ⟨rfl, HF.out⟩

set_option maxHeartbeats 2000000 in
set_option maxRecDepth 100000 in
theorem ixGuard (v : Value) (xs : List I4) (b1 : Nat) (c : CodeD) (row : Array Value) (hr0 : 0 ≤ c.regs) (hr1 : c.regs ≤ 4096) (bx : Nat) (w : World) (hs : Sl w 4 en4 v xs) (hcb : Blk w b1 31 row) (hcc : IsCode w (.agg row) c) (hbx : Blk w bx 63 #[.func (Fn.func 37) #[] #[.pointer (some ⟨b1, 0, none⟩)]]) :
    Calls Try.prog 72 #[v, .func (Fn.func 63) #[] #[.pointer (some ⟨bx, 0, none⟩)]] w fun e w' => e = .returned (.int .i64 (fIdx (fun x => !((guardB c) x)) xs)) ∧ Ext w w' := by
  obtain ⟨A, cp, rfl, hc, hm, hr⟩ := hs
  have HBX := Lib.hid hbx
  clear hbx
  go_enter Try.func72, Try.ntmps72
  go_wp2_with fail
  go_loopw [8] (fun i wr => ∃ k : Nat, k ≤ xs.length ∧ i = .int .i64 k ∧ Hid (∀ x ∈ xs.take k, (!((guardB c) x)) = false) ∧ Ext w wr) (fun i _ => xs.length - (intOf i).toNat)
  case atStart => exact ⟨0, Nat.zero_le _, rfl, Lib.hid (by simp), Ext.refl w⟩
  case round =>
    obtain ⟨k, hk, rfl, HT, hE⟩ := hrel
    by_cases hlt : k < xs.length
    · obtain ⟨b, o, rfl, hb, hy⟩ := hr (by omega)
      have p0 : wr.cell? ⟨b, o + k * 4, none⟩ = some (.int .i64 xs[k].a) := (hE.cell (p := ⟨b, _, none⟩) hb).trans (hy k _ (List.getElem?_eq_getElem hlt) 0 _ rfl)
      have p1 : wr.cell? ⟨b, o + k * 4 + 1, none⟩ = some (.int .i64 xs[k].b) := (hE.cell (p := ⟨b, _, none⟩) hb).trans (hy k _ (List.getElem?_eq_getElem hlt) 1 _ rfl)
      have p2 : wr.cell? ⟨b, o + k * 4 + 2, none⟩ = some (.int .i64 xs[k].c) := (hE.cell (p := ⟨b, _, none⟩) hb).trans (hy k _ (List.getElem?_eq_getElem hlt) 2 _ rfl)
      have p3 : wr.cell? ⟨b, o + k * 4 + 3, none⟩ = some (.int .i64 xs[k].d) := (hE.cell (p := ⟨b, _, none⟩) hb).trans (hy k _ (List.getElem?_eq_getElem hlt) 3 _ rfl)
      have hw1 : b < wr.heap.size := Nat.lt_of_lt_of_le hb hE.size
      clear hy hr
      have hcon := ev1Guard xs[k] b1 c row hr0 hr1 bx wr (hcb.ext hE) (hcc.mono hE) (HBX.out.ext hE)
      have HC := Lib.hid hcon
      have HE := Lib.hid hE
      clear hcon hE
      go_wp2_with fail
      refine HC.out.mono ?_
      rintro e w1 ⟨rfl, hb1⟩
      have HF := Lib.hid (HE.out.trans hb1)
      clear hb1 HC
      generalize hd : (!((guardB c) xs[k])) = d
      have HD := Lib.hid hd
      clear hd
      cases d
      · go_wp2_with fail
        refine ⟨⟨k + 1, by omega, by go_num, Lib.hid ?_, HF.out⟩, by simp [intOf]; omega⟩
        rw [List.take_succ_eq_append_getElem hlt]
        intro x hx
        rcases List.mem_append.1 hx with hx | hx
        · exact HT.out x hx
        · rw [List.mem_singleton.1 hx]; exact HD.out
      · go_wp2_with fail
        go_ret
        refine ⟨?_, HF.out⟩
        rw [fIdx_at (q := (fun x => !((guardB c) x))) hlt HT.out HD.out]
        rfl
    · have HE := Lib.hid hE
      clear hE
      have htk := HT.out
      rw [List.take_of_length_le (by omega)] at htk
      have HT2 := Lib.hid (fIdx_none (q := (fun x => !((guardB c) x))) htk)
      clear htk HT
      go_wp2_with fail
      go_ret
      refine ⟨?_, HE.out⟩
      rw [HT2.out]
      rfl

theorem cfGuard (v : Value) (xs : List I4) (b1 : Nat) (c : CodeD) (row : Array Value) (hr0 : 0 ≤ c.regs) (hr1 : c.regs ≤ 4096) (bx : Nat) (w : World) (hs : Sl w 4 en4 v xs) (hcb : Blk w b1 31 row) (hcc : IsCode w (.agg row) c) (hbx : Blk w bx 63 #[.func (Fn.func 37) #[] #[.pointer (some ⟨b1, 0, none⟩)]]) :
    Calls Try.prog 62 #[v, .func (Fn.func 63) #[] #[.pointer (some ⟨bx, 0, none⟩)]] w fun e w' => e = .returned (.bool (xs.any (fun x => !((guardB c) x)))) ∧ Ext w w' := by
  rw [← fIdx_any]
  have HC := Lib.hid (ixGuard v xs b1 c row hr0 hr1 bx w hs hcb hcc hbx)
  clear hbx hs
  go_enter Try.func62, Try.ntmps62
  go_wp2_with fail
  refine HC.out.mono ?_
  rintro e w1 ⟨rfl, hb⟩
  go_wp2_with fail
  go_ret
  exact ⟨rfl, hb⟩

set_option maxHeartbeats 2000000 in
theorem evGuard (v : Value) (xs : List I4) (b1 : Nat) (c : CodeD) (row : Array Value) (hr0 : 0 ≤ c.regs) (hr1 : c.regs ≤ 4096) (w : World) (hs : Sl w 4 en4 v xs) (hcb : Blk w b1 31 row) (hcc : IsCode w (.agg row) c) :
    Calls Try.prog 36 #[v, .func (Fn.func 37) #[] #[.pointer (some ⟨b1, 0, none⟩)]] w fun e w' => e = .returned (.bool (evB (guardB c) xs)) ∧ Ext w w' := by
  have HE : Hid (Ext w (w.alloc (.cells #[.func (Fn.func 37) #[] #[.pointer (some ⟨b1, 0, none⟩)]] 63))) := Lib.hid ((Ext.refl w).alloc _)
  have HC := Lib.hid (accE HE.out (cfGuard v xs b1 c row hr0 hr1 w.heap.size _ (hs.mono HE.out) (hcb.ext HE.out) (hcc.mono HE.out) (Blk.new w 63 #[.func (Fn.func 37) #[] #[.pointer (some ⟨b1, 0, none⟩)]])))
  obtain ⟨A, cp, rfl, hc, hm, -⟩ := hs
  by_cases hl : xs.length ≤ 65536
  · have e : evB (guardB c) xs = !(xs.any (fun x => !((guardB c) x))) := by unfold evB; rw [decide_eq_true hl, not_any]; rfl
    rw [e]
    clear e
    go_enter Try.func36, Try.ntmps36
    go_wp2_with fail
    refine HC.out.mono ?_
    rintro e w1 ⟨rfl, hb⟩
    go_wp2_with fail
    go_ret
    exact ⟨rfl, hb⟩
  · have e : evB (guardB c) xs = false := by unfold evB; rw [decide_eq_false hl]; rfl
    rw [e]
    clear e HC
    go_enter Try.func36, Try.ntmps36
    go_wp2_with fail
    go_ret
    exact ⟨rfl, HE.out⟩

end Go.Proofs.Ytagdompikjhnoaa
