/- CodeSame: the walk. -/
import Derived.Test.YtagdompikjhnoaaSameReg
import Derived.Test.YtagdompikjhnoaaNames
namespace Go.Proofs.Ytagdompikjhnoaa
open Go.RowKit

def Cut3 (w : World) (a b c : CodeD) (v7 v8 v9 : Value) (wr : World) : Prop :=
  ∃ b7 b8 b9 x y z, v7 = ptr b7 ∧ v8 = ptr b8 ∧ v9 = ptr b9 ∧ Blk wr b7 35 #[x] ∧ Blk wr b8 35 #[y] ∧ Blk wr b9 35 #[z] ∧
    SlC wr x [a, b] ∧ SlC wr y [a, c] ∧ SlC wr z [a] ∧ Ext w wr

theorem list56 (l : List Value) (h : l.length = 56) : ∃ x0 x1 x2 x3 x4 x5 x6 x7 x8 x9 x10 x11 x12 x13 x14 x15 x16 x17 x18 x19 x20 x21 x22 x23 x24 x25 x26 x27 x28 x29 x30 x31 x32 x33 x34 x35 x36 x37 x38 x39 x40 x41 x42 x43 x44 x45 x46 x47 x48 x49 x50 x51 x52 x53 x54 x55 : Value, l = x0 :: x1 :: x2 :: x3 :: x4 :: x5 :: x6 :: x7 :: x8 :: x9 :: x10 :: x11 :: x12 :: x13 :: x14 :: x15 :: x16 :: x17 :: x18 :: x19 :: x20 :: x21 :: x22 :: x23 :: x24 :: x25 :: x26 :: x27 :: x28 :: x29 :: x30 :: x31 :: x32 :: x33 :: x34 :: x35 :: x36 :: x37 :: x38 :: x39 :: x40 :: x41 :: x42 :: x43 :: x44 :: x45 :: x46 :: x47 :: x48 :: x49 :: x50 :: x51 :: x52 :: x53 :: x54 :: x55 :: [] := by
  obtain ⟨x0, t0, rfl, h0⟩ := cons_of_len h
  obtain ⟨x1, t1, rfl, h1⟩ := cons_of_len h0
  obtain ⟨x2, t2, rfl, h2⟩ := cons_of_len h1
  obtain ⟨x3, t3, rfl, h3⟩ := cons_of_len h2
  obtain ⟨x4, t4, rfl, h4⟩ := cons_of_len h3
  obtain ⟨x5, t5, rfl, h5⟩ := cons_of_len h4
  obtain ⟨x6, t6, rfl, h6⟩ := cons_of_len h5
  obtain ⟨x7, t7, rfl, h7⟩ := cons_of_len h6
  obtain ⟨x8, t8, rfl, h8⟩ := cons_of_len h7
  obtain ⟨x9, t9, rfl, h9⟩ := cons_of_len h8
  obtain ⟨x10, t10, rfl, h10⟩ := cons_of_len h9
  obtain ⟨x11, t11, rfl, h11⟩ := cons_of_len h10
  obtain ⟨x12, t12, rfl, h12⟩ := cons_of_len h11
  obtain ⟨x13, t13, rfl, h13⟩ := cons_of_len h12
  obtain ⟨x14, t14, rfl, h14⟩ := cons_of_len h13
  obtain ⟨x15, t15, rfl, h15⟩ := cons_of_len h14
  obtain ⟨x16, t16, rfl, h16⟩ := cons_of_len h15
  obtain ⟨x17, t17, rfl, h17⟩ := cons_of_len h16
  obtain ⟨x18, t18, rfl, h18⟩ := cons_of_len h17
  obtain ⟨x19, t19, rfl, h19⟩ := cons_of_len h18
  obtain ⟨x20, t20, rfl, h20⟩ := cons_of_len h19
  obtain ⟨x21, t21, rfl, h21⟩ := cons_of_len h20
  obtain ⟨x22, t22, rfl, h22⟩ := cons_of_len h21
  obtain ⟨x23, t23, rfl, h23⟩ := cons_of_len h22
  obtain ⟨x24, t24, rfl, h24⟩ := cons_of_len h23
  obtain ⟨x25, t25, rfl, h25⟩ := cons_of_len h24
  obtain ⟨x26, t26, rfl, h26⟩ := cons_of_len h25
  obtain ⟨x27, t27, rfl, h27⟩ := cons_of_len h26
  obtain ⟨x28, t28, rfl, h28⟩ := cons_of_len h27
  obtain ⟨x29, t29, rfl, h29⟩ := cons_of_len h28
  obtain ⟨x30, t30, rfl, h30⟩ := cons_of_len h29
  obtain ⟨x31, t31, rfl, h31⟩ := cons_of_len h30
  obtain ⟨x32, t32, rfl, h32⟩ := cons_of_len h31
  obtain ⟨x33, t33, rfl, h33⟩ := cons_of_len h32
  obtain ⟨x34, t34, rfl, h34⟩ := cons_of_len h33
  obtain ⟨x35, t35, rfl, h35⟩ := cons_of_len h34
  obtain ⟨x36, t36, rfl, h36⟩ := cons_of_len h35
  obtain ⟨x37, t37, rfl, h37⟩ := cons_of_len h36
  obtain ⟨x38, t38, rfl, h38⟩ := cons_of_len h37
  obtain ⟨x39, t39, rfl, h39⟩ := cons_of_len h38
  obtain ⟨x40, t40, rfl, h40⟩ := cons_of_len h39
  obtain ⟨x41, t41, rfl, h41⟩ := cons_of_len h40
  obtain ⟨x42, t42, rfl, h42⟩ := cons_of_len h41
  obtain ⟨x43, t43, rfl, h43⟩ := cons_of_len h42
  obtain ⟨x44, t44, rfl, h44⟩ := cons_of_len h43
  obtain ⟨x45, t45, rfl, h45⟩ := cons_of_len h44
  obtain ⟨x46, t46, rfl, h46⟩ := cons_of_len h45
  obtain ⟨x47, t47, rfl, h47⟩ := cons_of_len h46
  obtain ⟨x48, t48, rfl, h48⟩ := cons_of_len h47
  obtain ⟨x49, t49, rfl, h49⟩ := cons_of_len h48
  obtain ⟨x50, t50, rfl, h50⟩ := cons_of_len h49
  obtain ⟨x51, t51, rfl, h51⟩ := cons_of_len h50
  obtain ⟨x52, t52, rfl, h52⟩ := cons_of_len h51
  obtain ⟨x53, t53, rfl, h53⟩ := cons_of_len h52
  obtain ⟨x54, t54, rfl, h54⟩ := cons_of_len h53
  obtain ⟨x55, t55, rfl, h55⟩ := cons_of_len h54
  obtain rfl := nil_of_len h55
  exact ⟨_, _, _, _, _, _, _, _, _, _, _, _, _, _, _, _, _, _, _, _, _, _, _, _, _, _, _, _, _, _, _, _, _, _, _, _, _, _, _, _, _, _, _, _, _, _, _, _, _, _, _, _, _, _, _, _, rfl⟩

theorem slC_two {w : World} {b : Nat} {r q : Raw} {x y : CodeD} (hb : Blk w b 31 (r.row ++ q.row)) (hx : IsCode w (.agg r.row) x) (hy : IsCode w (.agg q.row) y) : SlC w (slc b 2) [x, y] := by
  refine ⟨[r.row, q.row], ⟨some ⟨b, 0, none⟩, 2, rfl, Nat.le_refl _, by omega, fun _ => ⟨b, 0, rfl, hb.lt, ?_⟩⟩, rfl, ?_⟩
  · intro i z hi j u hu
    have hj : j < 8 := by
      have h8 : ∀ z ∈ [r.row, q.row], z.toList.length = 8 := by simp [Raw.row]
      have := (List.getElem?_eq_some_iff.1 hu).1
      rw [h8 z (List.mem_of_getElem? hi)] at this
      exact this
    rw [hb.cells]
    match i, hi with
    | 0, hi =>
      obtain rfl : r.row = z := by simpa using hi
      rw [Array.getElem?_append_left (by show _ < 8; omega), ← Array.getElem?_toList, ← hu]
      congr 1; omega
    | 1, hi =>
      obtain rfl : q.row = z := by simpa using hi
      rw [Array.getElem?_append_right (by show 8 ≤ _; omega), ← Array.getElem?_toList, ← hu]
      congr 1; show 0 + 1 * 8 + j - 8 = j; omega
    | k + 2, hi => simp at hi
  · intro i z x' hi hx'
    match i, hi, hx' with
    | 0, hi, hx' =>
      obtain rfl : r.row = z := by simpa using hi
      obtain rfl : x = x' := by simpa using hx'
      exact hx
    | 1, hi, hx' =>
      obtain rfl : q.row = z := by simpa using hi
      obtain rfl : y = x' := by simpa using hx'
      exact hy
    | k + 2, hi, _ => simp at hi
theorem slC_one {w : World} {b : Nat} {r : Raw} {x : CodeD} (hb : Blk w b 31 r.row) (hx : IsCode w (.agg r.row) x) : SlC w (slc b 1) [x] := by
  refine ⟨[r.row], ⟨some ⟨b, 0, none⟩, 1, rfl, Nat.le_refl _, by omega, fun _ => ⟨b, 0, rfl, hb.lt, ?_⟩⟩, rfl, ?_⟩
  · intro i z hi j u hu
    rw [hb.cells]
    match i, hi with
    | 0, hi =>
      obtain rfl : r.row = z := by simpa using hi
      rw [← Array.getElem?_toList, ← hu]
      congr 1; omega
    | k + 1, hi => simp at hi
  · intro i z x' hi hx'
    match i, hi, hx' with
    | 0, hi, hx' =>
      obtain rfl : r.row = z := by simpa using hi
      obtain rfl : x = x' := by simpa using hx'
      exact hx
    | k + 1, hi, _ => simp at hi

set_option maxHeartbeats 4000000 in
set_option maxRecDepth 100000 in
theorem codeSame_walk (va vb vc : Value) (a b c : CodeD) (w : World) (ha : IsCode w va a) (hb : IsCode w vb b) (hc : IsCode w vc c) :
    Calls Try.prog 4 #[va, vb, vc] w fun e w' => e = .returned (.bool true) ∧ Ext w w' := by
  obtain ⟨rA, rfl⟩ := ha.raw
  obtain ⟨rB, rfl⟩ := hb.raw
  obtain ⟨rC, rfl⟩ := hc.raw
  have hE : Ext w (((w.alloc (.cells #[.string rA.name, .int .i64 rA.kind, .int .i64 rA.length, .int .i64 rA.regs, .slice rA.a1 rA.n1 rA.c1, .slice rA.a2 rA.n2 rA.c2, .slice rA.a3 rA.n3 rA.c3, .slice rA.a4 rA.n4 rA.c4] 31)).alloc (.cells #[.string rB.name, .int .i64 rB.kind, .int .i64 rB.length, .int .i64 rB.regs, .slice rB.a1 rB.n1 rB.c1, .slice rB.a2 rB.n2 rB.c2, .slice rB.a3 rB.n3 rB.c3, .slice rB.a4 rB.n4 rB.c4] 31)).alloc (.cells #[.string rC.name, .int .i64 rC.kind, .int .i64 rC.length, .int .i64 rC.regs, .slice rC.a1 rC.n1 rC.c1, .slice rC.a2 rC.n2 rC.c2, .slice rC.a3 rC.n3 rC.c3, .slice rC.a4 rC.n4 rC.c4] 31)) := (((Ext.refl w).alloc _).alloc _).alloc _
  have hA : Blk (((w.alloc (.cells #[.string rA.name, .int .i64 rA.kind, .int .i64 rA.length, .int .i64 rA.regs, .slice rA.a1 rA.n1 rA.c1, .slice rA.a2 rA.n2 rA.c2, .slice rA.a3 rA.n3 rA.c3, .slice rA.a4 rA.n4 rA.c4] 31)).alloc (.cells #[.string rB.name, .int .i64 rB.kind, .int .i64 rB.length, .int .i64 rB.regs, .slice rB.a1 rB.n1 rB.c1, .slice rB.a2 rB.n2 rB.c2, .slice rB.a3 rB.n3 rB.c3, .slice rB.a4 rB.n4 rB.c4] 31)).alloc (.cells #[.string rC.name, .int .i64 rC.kind, .int .i64 rC.length, .int .i64 rC.regs, .slice rC.a1 rC.n1 rC.c1, .slice rC.a2 rC.n2 rC.c2, .slice rC.a3 rC.n3 rC.c3, .slice rC.a4 rC.n4 rC.c4] 31)) w.heap.size 31 #[.string rA.name, .int .i64 rA.kind, .int .i64 rA.length, .int .i64 rA.regs, .slice rA.a1 rA.n1 rA.c1, .slice rA.a2 rA.n2 rA.c2, .slice rA.a3 rA.n3 rA.c3, .slice rA.a4 rA.n4 rA.c4] := ((Blk.new w 31 #[.string rA.name, .int .i64 rA.kind, .int .i64 rA.length, .int .i64 rA.regs, .slice rA.a1 rA.n1 rA.c1, .slice rA.a2 rA.n2 rA.c2, .slice rA.a3 rA.n3 rA.c3, .slice rA.a4 rA.n4 rA.c4]).alloc _).alloc _
  have hB : Blk (((w.alloc (.cells #[.string rA.name, .int .i64 rA.kind, .int .i64 rA.length, .int .i64 rA.regs, .slice rA.a1 rA.n1 rA.c1, .slice rA.a2 rA.n2 rA.c2, .slice rA.a3 rA.n3 rA.c3, .slice rA.a4 rA.n4 rA.c4] 31)).alloc (.cells #[.string rB.name, .int .i64 rB.kind, .int .i64 rB.length, .int .i64 rB.regs, .slice rB.a1 rB.n1 rB.c1, .slice rB.a2 rB.n2 rB.c2, .slice rB.a3 rB.n3 rB.c3, .slice rB.a4 rB.n4 rB.c4] 31)).alloc (.cells #[.string rC.name, .int .i64 rC.kind, .int .i64 rC.length, .int .i64 rC.regs, .slice rC.a1 rC.n1 rC.c1, .slice rC.a2 rC.n2 rC.c2, .slice rC.a3 rC.n3 rC.c3, .slice rC.a4 rC.n4 rC.c4] 31)) (w.heap.size + 1) 31 #[.string rB.name, .int .i64 rB.kind, .int .i64 rB.length, .int .i64 rB.regs, .slice rB.a1 rB.n1 rB.c1, .slice rB.a2 rB.n2 rB.c2, .slice rB.a3 rB.n3 rB.c3, .slice rB.a4 rB.n4 rB.c4] := by
    have := (Blk.new (w.alloc (.cells #[.string rA.name, .int .i64 rA.kind, .int .i64 rA.length, .int .i64 rA.regs, .slice rA.a1 rA.n1 rA.c1, .slice rA.a2 rA.n2 rA.c2, .slice rA.a3 rA.n3 rA.c3, .slice rA.a4 rA.n4 rA.c4] 31)) 31 #[.string rB.name, .int .i64 rB.kind, .int .i64 rB.length, .int .i64 rB.regs, .slice rB.a1 rB.n1 rB.c1, .slice rB.a2 rB.n2 rB.c2, .slice rB.a3 rB.n3 rB.c3, .slice rB.a4 rB.n4 rB.c4]).alloc (.cells #[.string rC.name, .int .i64 rC.kind, .int .i64 rC.length, .int .i64 rC.regs, .slice rC.a1 rC.n1 rC.c1, .slice rC.a2 rC.n2 rC.c2, .slice rC.a3 rC.n3 rC.c3, .slice rC.a4 rC.n4 rC.c4] 31)
    rwa [World.size_alloc] at this
  have hC : Blk (((w.alloc (.cells #[.string rA.name, .int .i64 rA.kind, .int .i64 rA.length, .int .i64 rA.regs, .slice rA.a1 rA.n1 rA.c1, .slice rA.a2 rA.n2 rA.c2, .slice rA.a3 rA.n3 rA.c3, .slice rA.a4 rA.n4 rA.c4] 31)).alloc (.cells #[.string rB.name, .int .i64 rB.kind, .int .i64 rB.length, .int .i64 rB.regs, .slice rB.a1 rB.n1 rB.c1, .slice rB.a2 rB.n2 rB.c2, .slice rB.a3 rB.n3 rB.c3, .slice rB.a4 rB.n4 rB.c4] 31)).alloc (.cells #[.string rC.name, .int .i64 rC.kind, .int .i64 rC.length, .int .i64 rC.regs, .slice rC.a1 rC.n1 rC.c1, .slice rC.a2 rC.n2 rC.c2, .slice rC.a3 rC.n3 rC.c3, .slice rC.a4 rC.n4 rC.c4] 31)) (w.heap.size + 1 + 1) 31 #[.string rC.name, .int .i64 rC.kind, .int .i64 rC.length, .int .i64 rC.regs, .slice rC.a1 rC.n1 rC.c1, .slice rC.a2 rC.n2 rC.c2, .slice rC.a3 rC.n3 rC.c3, .slice rC.a4 rC.n4 rC.c4] := by
    have := Blk.new ((w.alloc (.cells #[.string rA.name, .int .i64 rA.kind, .int .i64 rA.length, .int .i64 rA.regs, .slice rA.a1 rA.n1 rA.c1, .slice rA.a2 rA.n2 rA.c2, .slice rA.a3 rA.n3 rA.c3, .slice rA.a4 rA.n4 rA.c4] 31)).alloc (.cells #[.string rB.name, .int .i64 rB.kind, .int .i64 rB.length, .int .i64 rB.regs, .slice rB.a1 rB.n1 rB.c1, .slice rB.a2 rB.n2 rB.c2, .slice rB.a3 rB.n3 rB.c3, .slice rB.a4 rB.n4 rB.c4] 31)) 31 #[.string rC.name, .int .i64 rC.kind, .int .i64 rC.length, .int .i64 rC.regs, .slice rC.a1 rC.n1 rC.c1, .slice rC.a2 rC.n2 rC.c2, .slice rC.a3 rC.n3 rC.c3, .slice rC.a4 rC.n4 rC.c4]
    rwa [World.size_alloc, World.size_alloc] at this
  have HE := Lib.hid hE
  have HA := Lib.hid hA
  have HB := Lib.hid hB
  have HC := Lib.hid hC
  clear hE hA hB hC
  simp only [Raw.row] at ha hb hc ⊢
  go_enter Try.func4, Try.ntmps4
  go_wp2_with fail
  generalize ((w.alloc (.cells #[.string rA.name, .int .i64 rA.kind, .int .i64 rA.length, .int .i64 rA.regs, .slice rA.a1 rA.n1 rA.c1, .slice rA.a2 rA.n2 rA.c2, .slice rA.a3 rA.n3 rA.c3, .slice rA.a4 rA.n4 rA.c4] 31)).alloc (.cells #[.string rB.name, .int .i64 rB.kind, .int .i64 rB.length, .int .i64 rB.regs, .slice rB.a1 rB.n1 rB.c1, .slice rB.a2 rB.n2 rB.c2, .slice rB.a3 rB.n3 rB.c3, .slice rB.a4 rB.n4 rB.c4] 31)).alloc (.cells #[.string rC.name, .int .i64 rC.kind, .int .i64 rC.length, .int .i64 rC.regs, .slice rC.a1 rC.n1 rC.c1, .slice rC.a2 rC.n2 rC.c2, .slice rC.a3 rC.n3 rC.c3, .slice rC.a4 rC.n4 rC.c4] 31) = W at HE HA HB HC ⊢
  refine (small_any _ a _ (ha.mono HE.out)).mono ?_
  rintro e w1 ⟨q1, rfl, -, hx⟩
  replace HE := Lib.hid (HE.out.trans hx)
  replace HA := Lib.hid (HA.out.ext hx)
  replace HB := Lib.hid (HB.out.ext hx)
  replace HC := Lib.hid (HC.out.ext hx)
  have cA := HA.out.cells
  have cB := HB.out.cells
  have cC := HC.out.cells
  clear hx
  cases q1
  · go_wp2_with fail
    refine (accE HE.out (lives_any _)).mono ?_
    rintro e w2 ⟨rfl, hx⟩
    go_wp2_with fail
    go_ret
    exact ⟨rfl, hx⟩
  go_wp2_with fail
  clear cA cB cC
  refine (small_any _ b _ (hb.mono HE.out)).mono ?_
  rintro e w1 ⟨q1, rfl, -, hx⟩
  replace HE := Lib.hid (HE.out.trans hx)
  replace HA := Lib.hid (HA.out.ext hx)
  replace HB := Lib.hid (HB.out.ext hx)
  replace HC := Lib.hid (HC.out.ext hx)
  have cA := HA.out.cells
  have cB := HB.out.cells
  have cC := HC.out.cells
  clear hx
  cases q1
  · go_wp2_with fail
    refine (accE HE.out (lives_any _)).mono ?_
    rintro e w2 ⟨rfl, hx⟩
    go_wp2_with fail
    go_ret
    exact ⟨rfl, hx⟩
  go_wp2_with fail
  clear cA cB cC
  refine (small_any _ c _ (hc.mono HE.out)).mono ?_
  rintro e w1 ⟨q1, rfl, -, hx⟩
  replace HE := Lib.hid (HE.out.trans hx)
  replace HA := Lib.hid (HA.out.ext hx)
  replace HB := Lib.hid (HB.out.ext hx)
  replace HC := Lib.hid (HC.out.ext hx)
  clear hx
  cases q1
  · go_wp2_with fail
    refine (accE HE.out (lives_any _)).mono ?_
    rintro e w2 ⟨rfl, hx⟩
    go_wp2_with fail
    go_ret
    exact ⟨rfl, hx⟩
  go_upto_region 3 with (fail)
  go_cut [7, 8, 9] (fun v7 v8 v9 wr => Cut3 w a b c v7 v8 v9 wr)
  case first =>
    rename_i JJ KK hR hMet
    refine region_fun0 (n := 56) (J3 w1.drew rA rB rC w.heap.size (w.heap.size + 1) (w.heap.size + 1 + 1)) (by kernel_rfl) (by kernel_rfl) rfl (by kernel_rfl) ?_ ?_ ?_
    · exact ⟨Ext.refl _, fun _ _ => rfl, ⟨rfl, HA.out⟩, ⟨rfl, HB.out⟩, ⟨rfl, HC.out⟩, fun h => (by cases h), fun h => (by cases h), fun h => (by cases h), fun h => (by cases h), fun h => (by cases h), fun h => (by cases h), fun h => (by cases h), fun h => (by cases h), fun h => (by cases h), fun h => (by cases h), fun h => (by cases h), fun h => (by cases h), fun h => (by cases h), fun h => (by cases h), fun h => (by cases h), fun h => (by cases h), fun h => (by cases h), fun h => (by cases h), fun h => (by cases h), fun h => (by cases h)⟩
    · intro i o l s w2 ho hdep hl hJ
      have hi : i < 17 := (Array.getElem?_eq_some_iff.1 ho).1
      rcases (by omega : i = 0 ∨ i = 1 ∨ i = 2 ∨ i = 3 ∨ i = 4 ∨ i = 5 ∨ i = 6 ∨ i = 7 ∨ i = 8 ∨ i = 9 ∨ i = 10 ∨ i = 11 ∨ i = 12 ∨ i = 13 ∨ i = 14 ∨ i = 15 ∨ i = 16) with rfl | rfl | rfl | rfl | rfl | rfl | rfl | rfl | rfl | rfl | rfl | rfl | rfl | rfl | rfl | rfl | rfl
      · injection ho with ho
        subst ho
        refine ⟨fun _ => ?_, fun hw => Bool.noConfusion hw⟩
        exact runs_loadC rA _ hJ.k3.1 (hJ.k3.2.ext hJ.ext) (j3_0 hJ)
      · injection ho with ho
        subst ho
        refine ⟨fun _ => ?_, fun hw => Bool.noConfusion hw⟩
        exact runs_loadC rB _ hJ.k4.1 (hJ.k4.2.ext hJ.ext) (j3_1 hJ)
      · injection ho with ho
        subst ho
        refine ⟨fun _ => ?_, fun hw => Bool.noConfusion hw⟩
        exact runs_build2 rA rB (hJ.v0 (hdep ⟨0, .data⟩ (by simp) rfl)) (hJ.v1 (hdep ⟨1, .data⟩ (by simp) rfl)) (j3_2 (hJ.ext' ((Ext.refl _).alloc _)) (Blk.new _ _ _))
      · injection ho with ho
        subst ho
        refine ⟨fun _ => ?_, fun hw => Bool.noConfusion hw⟩
        obtain ⟨b, e, k⟩ := hJ.s2 (hdep ⟨2, .data⟩ (by simp) rfl)
        exact runs_image b 2 e (j3_3 hJ k)
      · injection ho with ho
        subst ho
        refine ⟨fun _ => ?_, fun hw => Bool.noConfusion hw⟩
        exact runs_loadC rA _ hJ.k3.1 (hJ.k3.2.ext hJ.ext) (j3_4 hJ)
      · injection ho with ho
        subst ho
        refine ⟨fun _ => ?_, fun hw => Bool.noConfusion hw⟩
        exact runs_loadC rC _ hJ.k5.1 (hJ.k5.2.ext hJ.ext) (j3_5 hJ)
      · injection ho with ho
        subst ho
        refine ⟨fun _ => ?_, fun hw => Bool.noConfusion hw⟩
        exact runs_build2 rA rC (hJ.v4 (hdep ⟨4, .data⟩ (by simp) rfl)) (hJ.v5 (hdep ⟨5, .data⟩ (by simp) rfl)) (j3_6 (hJ.ext' ((Ext.refl _).alloc _)) (Blk.new _ _ _))
      · injection ho with ho
        subst ho
        refine ⟨fun _ => ?_, fun hw => Bool.noConfusion hw⟩
        obtain ⟨b, e, k⟩ := hJ.s6 (hdep ⟨6, .data⟩ (by simp) rfl)
        exact runs_image b 2 e (j3_7 hJ k)
      · injection ho with ho
        subst ho
        refine ⟨fun _ => ?_, fun hw => Bool.noConfusion hw⟩
        exact runs_loadC rA _ hJ.k3.1 (hJ.k3.2.ext hJ.ext) (j3_8 hJ)
      · injection ho with ho
        subst ho
        refine ⟨fun _ => ?_, fun hw => Bool.noConfusion hw⟩
        exact runs_build1 rA (hJ.v8 (hdep ⟨8, .data⟩ (by simp) rfl)) (j3_9 (hJ.ext' ((Ext.refl _).alloc _)) (Blk.new _ _ _))
      · injection ho with ho
        subst ho
        refine ⟨fun _ => ?_, fun hw => Bool.noConfusion hw⟩
        obtain ⟨b, e, k⟩ := hJ.s9 (hdep ⟨9, .data⟩ (by simp) rfl)
        exact runs_image b 1 e (j3_10 hJ k)
      · injection ho with ho
        subst ho
        refine ⟨fun _ => ?_, fun hw => Bool.noConfusion hw⟩
        exact runs_allocI (j3_11 (hJ.ext' ((Ext.refl _).alloc _)) hl hJ.ext.size (Blk.new _ _ _) hJ.fresh)
      · injection ho with ho
        subst ho
        refine ⟨fun _ => ?_, fun hw => Bool.noConfusion hw⟩
        exact runs_allocI (j3_12 (hJ.ext' ((Ext.refl _).alloc _)) hl hJ.ext.size (Blk.new _ _ _) hJ.fresh)
      · injection ho with ho
        subst ho
        refine ⟨fun _ => ?_, fun hw => Bool.noConfusion hw⟩
        exact runs_allocI (j3_13 (hJ.ext' ((Ext.refl _).alloc _)) hl hJ.ext.size (Blk.new _ _ _) hJ.fresh)
      · injection ho with ho
        subst ho
        refine ⟨fun _ => ?_, fun hw => Bool.noConfusion hw⟩
        obtain ⟨p, e, hp, v, hv, -⟩ := hJ.p11 (hdep ⟨11, .data⟩ (by simp) rfl)
        obtain ⟨b, e2, k⟩ := hJ.g3 (hdep ⟨3, .data⟩ (by simp) rfl)
        exact runs_storeI p b 2 v e e2 hv (j3_14 hJ e (hdep ⟨11, .data⟩ (by simp) rfl) hp hv k)
      · injection ho with ho
        subst ho
        refine ⟨fun _ => ?_, fun hw => Bool.noConfusion hw⟩
        obtain ⟨p, e, hp, v, hv, -⟩ := hJ.p12 (hdep ⟨12, .data⟩ (by simp) rfl)
        obtain ⟨b, e2, k⟩ := hJ.g7 (hdep ⟨7, .data⟩ (by simp) rfl)
        exact runs_storeI p b 2 v e e2 hv (j3_15 hJ e (hdep ⟨12, .data⟩ (by simp) rfl) hp hv k)
      · injection ho with ho
        subst ho
        refine ⟨fun _ => ?_, fun hw => Bool.noConfusion hw⟩
        obtain ⟨p, e, hp, v, hv, -⟩ := hJ.p13 (hdep ⟨13, .data⟩ (by simp) rfl)
        obtain ⟨b, e2, k⟩ := hJ.g10 (hdep ⟨10, .data⟩ (by simp) rfl)
        exact runs_storeI p b 1 v e e2 hv (j3_16 hJ e (hdep ⟨13, .data⟩ (by simp) rfl) hp hv k)
    · rintro l ⟨⟨t⟩, df⟩ w2 hall hsz hdf hJ
      simp only at hdf hsz
      subst hdf
      obtain ⟨x0, x1, x2, x3, x4, x5, x6, x7, x8, x9, x10, x11, x12, x13, x14, x15, x16, x17, x18, x19, x20, x21, x22, x23, x24, x25, x26, x27, x28, x29, x30, x31, x32, x33, x34, x35, x36, x37, x38, x39, x40, x41, x42, x43, x44, x45, x46, x47, x48, x49, x50, x51, x52, x53, x54, x55, rfl⟩ := list56 t hsz
      obtain rfl := hJ.fr 0 (by decide)
      obtain rfl := hJ.fr 1 (by decide)
      obtain rfl := hJ.fr 2 (by decide)
      obtain rfl := hJ.fr 3 (by decide)
      obtain rfl := hJ.fr 4 (by decide)
      obtain rfl := hJ.fr 5 (by decide)
      obtain rfl := hJ.fr 6 (by decide)
      obtain ⟨p7, e7, -, v7, k7, m7⟩ := hJ.p11 (hall 11 (by decide))
      obtain ⟨p8, e8, -, v8, k8, m8⟩ := hJ.p12 (hall 12 (by decide))
      obtain ⟨p9, e9, -, v9, k9, m9⟩ := hJ.p13 (hall 13 (by decide))
      obtain ⟨b7, rfl, j7⟩ := m7 (hall 14 (by decide))
      obtain ⟨b8, rfl, j8⟩ := m8 (hall 15 (by decide))
      obtain ⟨b9, rfl, j9⟩ := m9 (hall 16 (by decide))
      have hx := HE.out.drew.trans hJ.ext
      have hcut : Cut3 w a b c _ _ _ w2 := ⟨p7, p8, p9, _, _, _, e7, e8, e9, k7, k8, k9, slC_two j7 (ha.mono hx) (hb.mono hx), slC_two j8 (ha.mono hx) (hc.mono hx), slC_one j9 (ha.mono hx), hx⟩
      clear hJ hall
      refine hMet _ _ (hR _ _ ?_)
      repeat apply Exists.intro
      exact ⟨hcut, rfl⟩
  case rest =>
    obtain ⟨b7, b8, b9, x, y, z, rfl, rfl, rfl, k7, k8, k9, hx, hy, hz, hE⟩ := hcut
    clear HA HB HC
    go_wp2_with fail
    refine wp_region_quiet (C := fun w' => Ext wc w') (by kernel_rfl) (by kernel_rfl) (Ext.refl wc).drew ?_
    simp only []
    refine quiet_val (.agg #[x]) rfl (fun w' hC => run_load_row rfl rfl (k7.ext hC) Try.underlying35 rfl infoI) ?_
    simp only [Act.put, List.setIfInBounds_toArray, List.set_cons_succ, List.set_cons_zero]
    refine quiet_val (.agg #[y]) rfl (fun w' hC => run_load_row rfl rfl (k8.ext hC) Try.underlying35 rfl infoI) ?_
    simp only [Act.put, List.setIfInBounds_toArray, List.set_cons_succ, List.set_cons_zero]
    quiet_step ((intro hC; exact accE hC (same_any x y _ _ _ (hx.mono hC) (hy.mono hC))))
    refine quiet_val (.agg #[x]) rfl (fun w' hC => run_load_row rfl rfl (k7.ext hC) Try.underlying35 rfl infoI) ?_
    simp only [Act.put, List.setIfInBounds_toArray, List.set_cons_succ, List.set_cons_zero]
    refine quiet_val (.agg #[y]) rfl (fun w' hC => run_load_row rfl rfl (k8.ext hC) Try.underlying35 rfl infoI) ?_
    simp only [Act.put, List.setIfInBounds_toArray, List.set_cons_succ, List.set_cons_zero]
    quiet_step ((intro hC; exact accE hC (refSame_any x y _ _ _ (hx.mono hC) (hy.mono hC))))
    refine quiet_val (.bool true) rfl (fun w' _ => by go_simp) ?_
    simp only [Act.put, List.setIfInBounds_toArray, List.set_cons_succ, List.set_cons_zero]
    refine quiet_val (.bool true) rfl (fun w' _ => by go_simp) ?_
    simp only [Act.put, List.setIfInBounds_toArray, List.set_cons_succ, List.set_cons_zero]
    refine quiet_val (.agg #[x]) rfl (fun w' hC => run_load_row rfl rfl (k7.ext hC) Try.underlying35 rfl infoI) ?_
    simp only [Act.put, List.setIfInBounds_toArray, List.set_cons_succ, List.set_cons_zero]
    refine quiet_val (.agg #[x]) rfl (fun w' hC => run_load_row rfl rfl (k7.ext hC) Try.underlying35 rfl infoI) ?_
    simp only [Act.put, List.setIfInBounds_toArray, List.set_cons_succ, List.set_cons_zero]
    quiet_step ((intro hC; exact accE hC (same_any x x [a, b] [a, b] _ (hx.mono hC) (hx.mono hC))))
    rw [decide_eq_true rfl]
    refine quiet_val (.bool true) rfl (fun w' _ => by go_simp) ?_
    simp only [Act.put, List.setIfInBounds_toArray, List.set_cons_succ, List.set_cons_zero]
    refine quiet_val (.bool true) rfl (fun w' _ => by go_simp) ?_
    simp only [Act.put, List.setIfInBounds_toArray, List.set_cons_succ, List.set_cons_zero]
    refine quiet_val (.agg #[x]) rfl (fun w' hC => run_load_row rfl rfl (k7.ext hC) Try.underlying35 rfl infoI) ?_
    simp only [Act.put, List.setIfInBounds_toArray, List.set_cons_succ, List.set_cons_zero]
    refine quiet_val (.agg #[z]) rfl (fun w' hC => run_load_row rfl rfl (k9.ext hC) Try.underlying35 rfl infoI) ?_
    simp only [Act.put, List.setIfInBounds_toArray, List.set_cons_succ, List.set_cons_zero]
    quiet_step ((intro hC; exact accE hC (same_any x z [a, b] [a] _ (hx.mono hC) (hz.mono hC))))
    rw [decide_eq_false (by simp : ¬ [a, b] = [a])]
    refine quiet_val (.bool true) rfl (fun w' _ => by go_simp) ?_
    simp only [Act.put, List.setIfInBounds_toArray, List.set_cons_succ, List.set_cons_zero]
    refine quiet_val (.bool true) rfl (fun w' _ => by go_simp) ?_
    simp only [Act.put, List.setIfInBounds_toArray, List.set_cons_succ, List.set_cons_zero]
    refine quiet_val (.bool true) rfl (fun w' _ => by go_simp) ?_
    simp only [Act.put, List.setIfInBounds_toArray, List.set_cons_succ, List.set_cons_zero]
    quiet_step ((intro hC; exact accE hC (lives_any _)))
    refine quiet_val (.bool true) rfl (fun w' _ => by go_simp) ?_
    simp only [Act.put, List.setIfInBounds_toArray, List.set_cons_succ, List.set_cons_zero]
    refine quiet_val (.bool true) rfl (fun w' _ => by go_simp) ?_
    simp only [Act.put, List.setIfInBounds_toArray, List.set_cons_succ, List.set_cons_zero]
    refine wpQuiet_nil ?_
    intro w' hC
    go_wp2_with fail
    go_ret
    exact ⟨rfl, hE.trans hC⟩
end Go.Proofs.Ytagdompikjhnoaa
