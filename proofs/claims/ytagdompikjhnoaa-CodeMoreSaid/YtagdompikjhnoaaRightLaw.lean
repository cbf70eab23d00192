/- CodeRight: the walk. -/
import Derived.Test.YtagdompikjhnoaaRefRight
import Derived.Test.YtagdompikjhnoaaRefTargets
import Derived.Test.YtagdompikjhnoaaSameInts
import Derived.Test.YtagdompikjhnoaaPlacesLaw
import Derived.Test.YtagdompikjhnoaaMono
import Derived.Deep.DeepCutAuto
namespace Go.Proofs.Ytagdompikjhnoaa
open Go.RowKit

theorem list22 (t : List Value) (h : t.length = 22) : ∃ x0 x1 x2 x3 x4 x5 x6 x7 x8 x9 x10 x11 x12 x13 x14 x15 x16 x17 x18 x19 x20 x21, t = [x0, x1, x2, x3, x4, x5, x6, x7, x8, x9, x10, x11, x12, x13, x14, x15, x16, x17, x18, x19, x20, x21] := by
  obtain ⟨x0, t0, e0, h0⟩ := cons_of_len h
  obtain ⟨x1, t1, e1, h1⟩ := cons_of_len h0
  obtain ⟨x2, t2, e2, h2⟩ := cons_of_len h1
  obtain ⟨x3, t3, e3, h3⟩ := cons_of_len h2
  obtain ⟨x4, t4, e4, h4⟩ := cons_of_len h3
  obtain ⟨x5, t5, e5, h5⟩ := cons_of_len h4
  obtain ⟨x6, t6, e6, h6⟩ := cons_of_len h5
  obtain ⟨x7, t7, e7, h7⟩ := cons_of_len h6
  obtain ⟨x8, t8, e8, h8⟩ := cons_of_len h7
  obtain ⟨x9, t9, e9, h9⟩ := cons_of_len h8
  obtain ⟨x10, t10, e10, h10⟩ := cons_of_len h9
  obtain ⟨x11, t11, e11, h11⟩ := cons_of_len h10
  obtain ⟨x12, t12, e12, h12⟩ := cons_of_len h11
  obtain ⟨x13, t13, e13, h13⟩ := cons_of_len h12
  obtain ⟨x14, t14, e14, h14⟩ := cons_of_len h13
  obtain ⟨x15, t15, e15, h15⟩ := cons_of_len h14
  obtain ⟨x16, t16, e16, h16⟩ := cons_of_len h15
  obtain ⟨x17, t17, e17, h17⟩ := cons_of_len h16
  obtain ⟨x18, t18, e18, h18⟩ := cons_of_len h17
  obtain ⟨x19, t19, e19, h19⟩ := cons_of_len h18
  obtain ⟨x20, t20, e20, h20⟩ := cons_of_len h19
  obtain ⟨x21, t21, e21, h21⟩ := cons_of_len h20
  have e := nil_of_len h21
  subst e0 e1 e2 e3 e4 e5 e6 e7 e8 e9 e10 e11 e12 e13 e14 e15 e16 e17 e18 e19 e20 e21 e
  exact ⟨_, _, _, _, _, _, _, _, _, _, _, _, _, _, _, _, _, _, _, _, _, _, rfl⟩

/-- what each operation of the region yields -/
def RR (c : CodeD) (row : Array Value) : Nat → World → Value → Prop
  | 0, _, v | 2, _, v | 6, _, v | 8, _, v => v = .agg row
  | 1, _, v | 3, _, v => v = .bool (rightB c)
  | 7, w, v | 9, w, v => Sl w 1 en1 v (targetsL c)
  | _, _, v => v = .bool true
theorem RR.mono (c : CodeD) (row : Array Value) : ∀ (i : Nat) (w w' : World) (v : Value), Ext w w' → RR c row i w v → RR c row i w' v
  | 0, _, _, _, _, h | 1, _, _, _, _, h | 2, _, _, _, _, h | 3, _, _, _, _, h | 4, _, _, _, _, h | 5, _, _, _, _, h | 6, _, _, _, _, h | 8, _, _, _, _, h | _ + 10, _, _, _, _, h => h
  | 7, _, _, _, hx, h | 9, _, _, _, hx, h => Sl.mono h hx

section
variable {s : Nat → Value} {w : World} {K : Value → World → Prop} {d : Option Nat} {ty : TypeId} {pos : String} {af : Array Edge} {gd : Option (Nat × Bool)}
theorem runs_loadRow {t : Nat} {row : Array Value} (b : Nat) (hs : s t = .pointer (some ⟨b, 0, none⟩)) (hb : Blk w b 31 row) (hn : row.size = 8) (hk : K (.agg row) w) : Runs Try.prog ⟨d, .load 31 (.tmp t), ty, pos, af, gd⟩ s w K := by
  have hi : (Try.prog.info? 31).map (·.size) = some row.size := by rw [hn]; kernel_rfl
  unfold Runs
  rw [run_load_row rfl hs hb Try.underlying31 rfl hi]
  exact hk
theorem runs_move {P : Program} {x : Operand} (hk : K (ev s x) w) : Runs P ⟨d, .move x, ty, pos, af, gd⟩ s w K := hk
theorem runs_assign {P : Program} {x : Operand} (hk : K (ev s x) w) : Runs P ⟨d, .assign x, ty, pos, af, gd⟩ s w K := hk
theorem runs_val {P : Program} {o : Oper} {x : Value} (hr : (execOp (ev s) o).run P w = .ok (.value x) w) (hk : K x w) : Runs P o s w K := by
  unfold Runs
  rw [hr]
  exact hk
theorem runs_fn {P : Program} {o : Oper} {f : FuncId} {args : Array Value} (hr : (execOp (ev s) o).run P w = .ok (.enter f args) w) (hc : Calls P f args w fun e w' => ∃ v, e = .returned v ∧ K v w') : Runs P o s w K := by
  unfold Runs
  rw [hr]
  exact hc
theorem runs_pick {P : Program} {x y z : Operand} {b : Bool} (hx : ev s x = .bool b) (hk : K (if b then ev s y else ev s z) w) : Runs P ⟨d, .pick x y z, ty, pos, af, gd⟩ s w K := by
  unfold Runs execOp
  simp only [hx]
  cases b <;> exact hk
end

set_option maxHeartbeats 8000000 in
set_option maxRecDepth 100000 in
theorem codeRight_walk (v : Value) (c : CodeD) (w : World) (h : IsCode w v c) (hin : InRange c) :
    Calls Try.prog 5 #[v] w fun e w' => e = .returned (.bool true) ∧ Ext w w' := by
  have HC := Lib.hid h
  obtain ⟨vi, vp, vk, vg, rfl, ⟨A1, c1, rfl, -⟩, ⟨A2, c2, rfl, -⟩, ⟨A3, c3, rfl, -⟩, ⟨A4, c4, rfl, -⟩⟩ := h
  have HIN := Lib.hid hin
  clear hin
  have HE : Hid (Ext w (w.alloc (.cells #[.string c.name, .int .i64 c.kind, .int .i64 c.length, .int .i64 c.regs, .slice A1 c.ins.length c1, .slice A2 c.pool.length c2, .slice A3 c.keys.length c3, .slice A4 c.guards.length c4] 31))) := Lib.hid ((Ext.refl w).alloc _)
  have HB := Lib.hid (Blk.new w 31 #[.string c.name, .int .i64 c.kind, .int .i64 c.length, .int .i64 c.regs, .slice A1 c.ins.length c1, .slice A2 c.pool.length c2, .slice A3 c.keys.length c3, .slice A4 c.guards.length c4])
  go_enter Try.func5, Try.ntmps5
  go_wp2_with fail
  generalize w.alloc (.cells #[.string c.name, .int .i64 c.kind, .int .i64 c.length, .int .i64 c.regs, .slice A1 c.ins.length c1, .slice A2 c.pool.length c2, .slice A3 c.keys.length c3, .slice A4 c.guards.length c4] 31) = W at HE HB ⊢
  refine (small_any _ c _ (HC.out.mono HE.out)).mono ?_
  rintro e w1 ⟨q1, rfl, hsh, hx⟩
  replace HE := Lib.hid (HE.out.trans hx)
  replace HB := Lib.hid (HB.out.ext hx)
  have cB := HB.out.cells
  clear hx
  cases q1
  · go_wp2_with fail
    refine (accE HE.out (lives_any _)).mono ?_
    rintro e w2 ⟨rfl, hx⟩
    go_wp2_with fail
    go_ret
    exact ⟨rfl, hx⟩
  obtain ⟨s1, -, -, s4⟩ := hsh rfl
  clear hsh
  go_upto_region 3 with (fail)
  go_cut [2] (fun v2 wr => v2 = .bool true ∧ Ext w wr)
  case first =>
    rename_i JJ KK hR hMet
    refine region_mono (n := 22) w1 (RR c #[.string c.name, .int .i64 c.kind, .int .i64 c.length, .int .i64 c.regs, .slice A1 c.ins.length c1, .slice A2 c.pool.length c2, .slice A3 c.keys.length c3, .slice A4 c.guards.length c4]) (by kernel_rfl) (by kernel_rfl) rfl (by kernel_rfl) (by kernel_rfl) (RR.mono c _) (Ext.refl w1).drew ?_ ?_
    · intro i o s wx ho hx hf hv
      have hE := HE.out.trans hx
      have hB := HB.out.ext hx
      have f1 : s 1 = .pointer (some ⟨w.heap.size, 0, none⟩) := hf 1 (by kernel_rfl)
      have hi : i < 16 := (Array.getElem?_eq_some_iff.1 ho).1
      rcases (by omega : i = 0 ∨ i = 1 ∨ i = 2 ∨ i = 3 ∨ i = 4 ∨ i = 5 ∨ i = 6 ∨ i = 7 ∨ i = 8 ∨ i = 9 ∨ i = 10 ∨ i = 11 ∨ i = 12 ∨ i = 13 ∨ i = 14 ∨ i = 15) with rfl | rfl | rfl | rfl | rfl | rfl | rfl | rfl | rfl | rfl | rfl | rfl | rfl | rfl | rfl | rfl
      · injection ho with ho
        subst ho
        refine ⟨fun _ => ?_, fun hw => Bool.noConfusion hw⟩
        exact runs_loadRow _ f1 hB rfl ⟨Ext.refl _, rfl⟩
      · injection ho with ho
        subst ho
        refine ⟨fun _ => ?_, fun hw => Bool.noConfusion hw⟩
        have q : s 7 = .agg #[.string c.name, .int .i64 c.kind, .int .i64 c.length, .int .i64 c.regs, .slice A1 c.ins.length c1, .slice A2 c.pool.length c2, .slice A3 c.keys.length c3, .slice A4 c.guards.length c4] := hv ⟨0, .data⟩ (by simp) rfl 7 rfl
        refine runs_fn (f := 18) (args := #[s 7]) (by kernel_rfl) ?_
        rw [q]
        exact (right_any _ c _ (HC.out.mono hE) HIN.out).mono fun e w' ⟨h1, h2⟩ => ⟨_, h1, h2, rfl⟩
      · injection ho with ho
        subst ho
        refine ⟨fun _ => ?_, fun hw => Bool.noConfusion hw⟩
        exact runs_loadRow _ f1 hB rfl ⟨Ext.refl _, rfl⟩
      · injection ho with ho
        subst ho
        refine ⟨fun _ => ?_, fun hw => Bool.noConfusion hw⟩
        have q : s 9 = .agg #[.string c.name, .int .i64 c.kind, .int .i64 c.length, .int .i64 c.regs, .slice A1 c.ins.length c1, .slice A2 c.pool.length c2, .slice A3 c.keys.length c3, .slice A4 c.guards.length c4] := hv ⟨2, .data⟩ (by simp) rfl 9 rfl
        refine runs_fn (f := 19) (args := #[s 9]) (by kernel_rfl) ?_
        rw [q]
        exact (refRight_any _ c _ (HC.out.mono hE) HIN.out).mono fun e w' ⟨h1, h2⟩ => ⟨_, h1, h2, rfl⟩
      · injection ho with ho
        subst ho
        refine ⟨fun _ => ?_, fun hw => Bool.noConfusion hw⟩
        have q1 : s 8 = .bool (rightB c) := hv ⟨1, .data⟩ (by simp) rfl 8 rfl
        have q2 : s 10 = .bool (rightB c) := hv ⟨3, .data⟩ (by simp) rfl 10 rfl
        refine runs_val (x := .bool true) ?_ ⟨Ext.refl _, rfl⟩
        have e : ∀ b : Bool, s 8 = .bool b → s 10 = .bool b → (execOp (ev s) ⟨some 11, .binOp .eql 4 (.tmp 8) (.tmp 10) 4, 4, "law.go:50", #[⟨1, .data⟩, ⟨3, .data⟩], none⟩).run Try.prog wx = .ok (.value (.bool true)) wx := by
          intro b e1 e2
          cases b <;> (unfold execOp; simp only [ev, e1, e2]; kernel_rfl)
        exact e _ q1 q2
      · injection ho with ho
        subst ho
        refine ⟨fun _ => ?_, fun hw => Bool.noConfusion hw⟩
        have q : s 11 = .bool true := hv ⟨4, .data⟩ (by simp) rfl 11 rfl
        exact runs_move ⟨Ext.refl _, q⟩
      · injection ho with ho
        subst ho
        refine ⟨fun _ => ?_, fun hw => ?_⟩
        rotate_left
        · rw [wanted_on rfl rfl (hv ⟨5, .guard⟩ (by simp) rfl 12 rfl)] at hw
          exact Bool.noConfusion hw
        exact runs_loadRow _ f1 hB rfl ⟨Ext.refl _, rfl⟩
      · injection ho with ho
        subst ho
        refine ⟨fun _ => ?_, fun hw => ?_⟩
        rotate_left
        · rw [wanted_on rfl rfl (hv ⟨5, .guard⟩ (by simp) rfl 12 rfl)] at hw
          exact Bool.noConfusion hw
        have q : s 13 = .agg #[.string c.name, .int .i64 c.kind, .int .i64 c.length, .int .i64 c.regs, .slice A1 c.ins.length c1, .slice A2 c.pool.length c2, .slice A3 c.keys.length c3, .slice A4 c.guards.length c4] := hv ⟨6, .data⟩ (by simp) rfl 13 rfl
        refine runs_fn (f := 21) (args := #[s 13]) (by kernel_rfl) ?_
        rw [q]
        exact (targets_any _ c _ (HC.out.mono hE) s1 s4).mono fun e w' ⟨v, h1, h2, h3⟩ => ⟨v, h1, h3, sl_of_own h2⟩
      · injection ho with ho
        subst ho
        refine ⟨fun _ => ?_, fun hw => ?_⟩
        rotate_left
        · rw [wanted_on rfl rfl (hv ⟨5, .guard⟩ (by simp) rfl 12 rfl)] at hw
          exact Bool.noConfusion hw
        exact runs_loadRow _ f1 hB rfl ⟨Ext.refl _, rfl⟩
      · injection ho with ho
        subst ho
        refine ⟨fun _ => ?_, fun hw => ?_⟩
        rotate_left
        · rw [wanted_on rfl rfl (hv ⟨5, .guard⟩ (by simp) rfl 12 rfl)] at hw
          exact Bool.noConfusion hw
        have q : s 15 = .agg #[.string c.name, .int .i64 c.kind, .int .i64 c.length, .int .i64 c.regs, .slice A1 c.ins.length c1, .slice A2 c.pool.length c2, .slice A3 c.keys.length c3, .slice A4 c.guards.length c4] := hv ⟨8, .data⟩ (by simp) rfl 15 rfl
        refine runs_fn (f := 22) (args := #[s 15]) (by kernel_rfl) ?_
        rw [q]
        exact (refTargets_any _ c _ (HC.out.mono hE) s1).mono fun e w' ⟨v, h1, h2, h3⟩ => ⟨v, h1, h3, (show Sl w' 1 en1 v (targetsL c) from (targets_same c).symm ▸ sl_of_own h2)⟩
      · injection ho with ho
        subst ho
        refine ⟨fun _ => ?_, fun hw => ?_⟩
        rotate_left
        · rw [wanted_on rfl rfl (hv ⟨5, .guard⟩ (by simp) rfl 12 rfl)] at hw
          exact Bool.noConfusion hw
        have q1 : Sl wx 1 en1 (s 14) (targetsL c) := hv ⟨7, .data⟩ (by simp) rfl 14 rfl
        have q2 : Sl wx 1 en1 (s 16) (targetsL c) := hv ⟨9, .data⟩ (by simp) rfl 16 rfl
        refine runs_fn (f := 20) (args := #[s 14, s 16]) (by kernel_rfl) ?_
        exact (sameInts_any _ _ _ _ _ q1 q2).mono fun e w' ⟨h1, h2⟩ => ⟨_, h1, h2, by show Value.bool _ = _; simp⟩
      · injection ho with ho
        subst ho
        refine ⟨fun _ => ?_, fun hw => Bool.noConfusion hw⟩
        have q1 : s 12 = .bool true := hv ⟨5, .data⟩ (by simp) rfl 12 rfl
        have q2 : s 17 = .bool true := hv ⟨10, .data⟩ (by simp) rfl 17 rfl
        exact runs_pick q1 ⟨Ext.refl _, q2⟩
      · injection ho with ho
        subst ho
        refine ⟨fun _ => ?_, fun hw => Bool.noConfusion hw⟩
        have q : s 18 = .bool true := hv ⟨11, .data⟩ (by simp) rfl 18 rfl
        exact runs_move ⟨Ext.refl _, q⟩
      · injection ho with ho
        subst ho
        refine ⟨fun _ => ?_, fun hw => ?_⟩
        rotate_left
        · rw [wanted_on rfl rfl (hv ⟨12, .guard⟩ (by simp) rfl 19 rfl)] at hw
          exact Bool.noConfusion hw
        refine runs_fn (f := 14) (args := #[]) (by kernel_rfl) ?_
        exact (lives_any _).mono fun e w' ⟨h1, h2⟩ => ⟨_, h1, h2, rfl⟩
      · injection ho with ho
        subst ho
        refine ⟨fun _ => ?_, fun hw => Bool.noConfusion hw⟩
        have q1 : s 19 = .bool true := hv ⟨12, .data⟩ (by simp) rfl 19 rfl
        have q2 : s 20 = .bool true := hv ⟨13, .data⟩ (by simp) rfl 20 rfl
        exact runs_pick q1 ⟨Ext.refl _, q2⟩
      · injection ho with ho
        subst ho
        refine ⟨fun _ => ?_, fun hw => Bool.noConfusion hw⟩
        have q : s 21 = .bool true := hv ⟨14, .data⟩ (by simp) rfl 21 rfl
        exact runs_assign ⟨Ext.refl _, q⟩
    · rintro ⟨⟨t⟩, df⟩ w2 hx hsz hdf hf hv
      simp only at hdf hsz
      subst hdf
      obtain ⟨x0, x1, x2, x3, x4, x5, x6, x7, x8, x9, x10, x11, x12, x13, x14, x15, x16, x17, x18, x19, x20, x21, rfl⟩ := list22 t hsz
      obtain rfl := hf 0 (by kernel_rfl)
      obtain rfl := hf 1 (by kernel_rfl)
      have e2 := hv 15 2 (by kernel_rfl)
      have hcut : _ ∧ Ext w w2 := ⟨e2, HE.out.trans hx⟩
      clear hv hf
      refine hMet _ _ (hR _ _ ?_)
      repeat apply Exists.intro
      exact ⟨hcut, rfl⟩
  case rest =>
    obtain ⟨rfl, hE⟩ := hcut
    go_wp2_with fail
    go_ret
    exact ⟨rfl, hE⟩
end Go.Proofs.Ytagdompikjhnoaa
