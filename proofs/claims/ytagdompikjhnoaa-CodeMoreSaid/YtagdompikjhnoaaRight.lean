/- Right of package code: what it answers. -/
import Derived.Test.YtagdompikjhnoaaEvery
namespace Go.Proofs.Ytagdompikjhnoaa
open Go.RowKit

def InRange (c : CodeD) : Prop := ∀ x ∈ c.ins, x.b ≤ 9223372036854775807 ∧ x.c ≤ 9223372036854775807 ∧ x.d ≤ 9223372036854775807
def preB (c : CodeD) : Bool := inB c.kind 0 255 && inB c.length 0 1024 && inB c.regs 0 4096 && decide (c.name.size ≤ 65536) && decide (c.pool.length ≤ 65536) && decide (c.keys.length ≤ 65536)
def rightB (c : CodeD) : Bool := preB c && evB constB c.pool && evB keyB c.keys && evB (insB c) c.ins && evB (guardB c) c.guards

set_option maxHeartbeats 4000000 in
set_option maxRecDepth 100000 in
theorem right_pre (v : Value) (c : CodeD) (w : World) (h : IsCode w v c) (hp : preB c = false) :
    Calls Try.prog 18 #[v] w fun e w' => e = .returned (.bool false) ∧ Ext w w' := by
  obtain ⟨vi, vp, vk, vg, rfl, ⟨A1, c1, rfl, hc1, hm1, -⟩, ⟨A2, c2, rfl, hc2, hm2, -⟩, ⟨A3, c3, rfl, hc3, hm3, -⟩, ⟨A4, c4, rfl, -⟩⟩ := h
  have key : inB c.kind 0 255 = false ∨ inB c.kind 0 255 = true ∧ (inB c.length 0 1024 = false ∨ inB c.length 0 1024 = true ∧ (inB c.regs 0 4096 = false ∨ inB c.regs 0 4096 = true ∧ (65536 < c.name.size ∨ c.name.size ≤ 65536 ∧ (65536 < c.pool.length ∨ c.pool.length ≤ 65536 ∧ 65536 < c.keys.length)))) := by
    unfold preB at hp
    cases h1 : inB c.kind 0 255
    · exact .inl rfl
    cases h2 : inB c.length 0 1024
    · exact .inr ⟨rfl, .inl rfl⟩
    cases h3 : inB c.regs 0 4096
    · exact .inr ⟨rfl, .inr ⟨rfl, .inl rfl⟩⟩
    refine .inr ⟨rfl, .inr ⟨rfl, .inr ⟨rfl, ?_⟩⟩⟩
    simp [h1, h2, h3] at hp
    omega
  clear hp
  rcases key with h1 | ⟨h1, h2 | ⟨h2, h3 | ⟨h3, h4 | ⟨h4, h5 | ⟨h5, h6⟩⟩⟩⟩⟩
  all_goals
    go_enter Try.func18, Try.ntmps18
    go_wp2_with (go_at_call 28; refine (in_any _ _ _ _).mono ?_; rintro e w1 ⟨rfl, rfl⟩)
    go_ret
    exact ⟨rfl, (Ext.refl w).alloc _⟩

set_option maxHeartbeats 4000000 in
set_option maxRecDepth 100000 in
theorem right_core (v : Value) (c : CodeD) (w : World) (h : IsCode w v c) (hin : InRange c) (h1 : inB c.kind 0 255 = true) (h2 : inB c.length 0 1024 = true) (h3 : inB c.regs 0 4096 = true) (h4 : c.name.size ≤ 65536) (h5 : c.pool.length ≤ 65536) (h6 : c.keys.length ≤ 65536)
    (hr0 : 0 ≤ c.regs) (hr1 : c.regs ≤ 4096) :
    Calls Try.prog 18 #[v] w fun e w' => e = .returned (.bool (evB constB c.pool && evB keyB c.keys && evB (insB c) c.ins && evB (guardB c) c.guards)) ∧ Ext w w' := by
  have hc := h
  obtain ⟨vi, vp, vk, vg, rfl, s1, s2, s3, s4⟩ := h
  obtain ⟨A1, c1, rfl, hc1, hm1, -⟩ := id s1
  obtain ⟨A2, c2, rfl, hc2, hm2, -⟩ := id s2
  obtain ⟨A3, c3, rfl, hc3, hm3, -⟩ := id s3
  obtain ⟨A4, c4, rfl, hc4, hm4, -⟩ := id s4
  have HIN := Lib.hid hin
  clear hin
  have HE : Hid (Ext w (w.alloc (.cells #[.string c.name, .int .i64 c.kind, .int .i64 c.length, .int .i64 c.regs, .slice A1 c.ins.length c1, .slice A2 c.pool.length c2, .slice A3 c.keys.length c3, .slice A4 c.guards.length c4] 31))) := Lib.hid ((Ext.refl w).alloc _)
  have HB := Lib.hid (Blk.new w 31 #[.string c.name, .int .i64 c.kind, .int .i64 c.length, .int .i64 c.regs, .slice A1 c.ins.length c1, .slice A2 c.pool.length c2, .slice A3 c.keys.length c3, .slice A4 c.guards.length c4])
  go_enter Try.func18, Try.ntmps18
  go_wp2_with (go_at_call 28; refine (in_any _ _ _ _).mono ?_; rintro e w1 ⟨rfl, rfl⟩)
  generalize w.alloc (.cells #[.string c.name, .int .i64 c.kind, .int .i64 c.length, .int .i64 c.regs, .slice A1 c.ins.length c1, .slice A2 c.pool.length c2, .slice A3 c.keys.length c3, .slice A4 c.guards.length c4] 31) = W at HE HB ⊢
  refine (evValue _ c.pool _ (s2.mono HE.out)).mono ?_
  rintro e w1 ⟨rfl, hb⟩
  replace HE := Lib.hid (HE.out.trans hb)
  replace HB := Lib.hid (HB.out.ext hb)
  have cB := HB.out.cells
  clear hb
  generalize hd : evB constB c.pool = d
  have D0 := Lib.hid hd
  clear hd
  cases d
  · go_wp2_with fail
    go_ret
    exact ⟨rb (by rw [D0.out] <;> rfl), HE.out⟩
  go_wp2_with fail
  clear cB
  refine (evKey _ c.keys _ (s3.mono HE.out)).mono ?_
  rintro e w1 ⟨rfl, hb⟩
  replace HE := Lib.hid (HE.out.trans hb)
  replace HB := Lib.hid (HB.out.ext hb)
  have cB := HB.out.cells
  clear hb
  generalize hd : evB keyB c.keys = d
  have D1 := Lib.hid hd
  clear hd
  cases d
  · go_wp2_with fail
    go_ret
    exact ⟨rb (by rw [D0.out, D1.out] <;> rfl), HE.out⟩
  go_wp2_with fail
  clear cB
  refine (evIns _ c.ins w.heap.size c _ hr0 hr1 _ (s1.mono HE.out) HB.out (hc.mono HE.out) HIN.out).mono ?_
  rintro e w1 ⟨rfl, hb⟩
  replace HE := Lib.hid (HE.out.trans hb)
  replace HB := Lib.hid (HB.out.ext hb)
  have cB := HB.out.cells
  clear hb
  generalize hd : evB (insB c) c.ins = d
  have D2 := Lib.hid hd
  clear hd
  cases d
  · go_wp2_with fail
    go_ret
    exact ⟨rb (by rw [D0.out, D1.out, D2.out] <;> rfl), HE.out⟩
  go_wp2_with fail
  clear cB
  refine (evGuard _ c.guards w.heap.size c _ hr0 hr1 _ (s4.mono HE.out) HB.out (hc.mono HE.out)).mono ?_
  rintro e w1 ⟨rfl, hb⟩
  replace HE := Lib.hid (HE.out.trans hb)
  clear hb
  generalize hd : evB (guardB c) c.guards = d
  have D3 := Lib.hid hd
  clear hd
  go_wp2_with fail
  go_ret
  exact ⟨rb (by rw [D0.out, D1.out, D2.out, D3.out] <;> rfl), HE.out⟩

theorem right_any (v : Value) (c : CodeD) (w : World) (h : IsCode w v c) (hin : InRange c) :
    Calls Try.prog 18 #[v] w fun e w' => e = .returned (.bool (rightB c)) ∧ Ext w w' := by
  cases hp : preB c with
  | false =>
    have e : rightB c = false := by unfold rightB; rw [hp]; rfl
    rw [e]
    exact right_pre v c w h hp
  | true =>
    have e : rightB c = (evB constB c.pool && evB keyB c.keys && evB (insB c) c.ins && evB (guardB c) c.guards) := by unfold rightB; rw [hp]; simp
    rw [e]
    unfold preB at hp
    simp only [Bool.and_eq_true, decide_eq_true_eq] at hp
    obtain ⟨⟨⟨⟨⟨h1, h2⟩, h3⟩, h4⟩, h5⟩, h6⟩ := hp
    have h7 := h3
    unfold inB at h7
    simp only [Bool.and_eq_true, decide_eq_true_eq] at h7
    exact right_core v c w h hin h1 h2 h3 h4 h5 h6 h7.1 h7.2
end Go.Proofs.Ytagdompikjhnoaa
