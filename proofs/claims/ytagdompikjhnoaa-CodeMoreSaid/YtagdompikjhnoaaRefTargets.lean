/- Targets of the reference: the walk; and that it is the list that package code gives. -/
import Derived.Test.YtagdompikjhnoaaLeads
namespace Go.Proofs.Ytagdompikjhnoaa
open Go.RowKit

def tr (c : CodeD) (k : Nat) : List Int := ((List.range k).map fun (i : Nat) => (i : Int)).filter (leadsB c)
theorem tr_succ (c : CodeD) (k : Nat) : tr c (k + 1) = tr c k ++ if leadsB c (k : Int) then [(k : Int)] else [] := by
  unfold tr
  rw [List.range_succ, List.map_append, List.filter_append]
  cases h : leadsB c (k : Int) <;> simp [h]
theorem tr_len (c : CodeD) (k : Nat) : (tr c k).length ≤ k := by
  unfold tr; exact Nat.le_trans (List.length_filter_le _ _) (by simp)

set_option maxHeartbeats 4000000 in
set_option maxRecDepth 100000 in
theorem refTargets_any (v : Value) (c : CodeD) (w : World) (h : IsCode w v c) (s1 : c.ins.length ≤ 200) :
    Calls Try.prog 22 #[v] w (TPost w (tr c c.ins.length)) := by
  obtain ⟨i0, hi, hz0, hz1, hz2⟩ := info_parts intInfo
  have HI := Lib.hid hi
  have HZ0 := Lib.hid hz0
  have HZ1 := Lib.hid hz1
  have HZ2 := Lib.hid hz2
  clear hi hz0 hz1 hz2
  have HC := Lib.hid h
  obtain ⟨vi, vp, vk, vg, rfl, ⟨A1, c1, rfl, hc1, hm1, -⟩, ⟨A2, c2, rfl, -⟩, ⟨A3, c3, rfl, -⟩, ⟨A4, c4, rfl, -⟩⟩ := h
  have HE : Hid (Ext w (w.alloc (.cells #[.string c.name, .int .i64 c.kind, .int .i64 c.length, .int .i64 c.regs, .slice A1 c.ins.length c1, .slice A2 c.pool.length c2, .slice A3 c.keys.length c3, .slice A4 c.guards.length c4] 31))) := Lib.hid ((Ext.refl w).alloc _)
  have HB := Lib.hid (Blk.new w 31 #[.string c.name, .int .i64 c.kind, .int .i64 c.length, .int .i64 c.regs, .slice A1 c.ins.length c1, .slice A2 c.pool.length c2, .slice A3 c.keys.length c3, .slice A4 c.guards.length c4])
  go_enter Try.func22, Try.ntmps22
  go_wp2_with fail
  generalize w.alloc (.cells #[.string c.name, .int .i64 c.kind, .int .i64 c.length, .int .i64 c.regs, .slice A1 c.ins.length c1, .slice A2 c.pool.length c2, .slice A3 c.keys.length c3, .slice A4 c.guards.length c4] 31) = W at HE HB ⊢
  go_loopw [3, 4] (fun sv i wr => ∃ k : Nat, k ≤ c.ins.length ∧ i = .int .i64 k ∧ Hid (wr.ownsRow w.heap.size 3 1 sv (tr c k).length ((tr c k).map encI)) ∧ Hid (Ext w wr) ∧ Hid (Blk wr w.heap.size 31 #[.string c.name, .int .i64 c.kind, .int .i64 c.length, .int .i64 c.regs, .slice A1 c.ins.length c1, .slice A2 c.pool.length c2, .slice A3 c.keys.length c3, .slice A4 c.guards.length c4])) (fun _ i _ => c.ins.length - (intOf i).toNat)
  case atStart => exact ⟨0, Nat.zero_le _, rfl, Lib.hid ⟨rfl, .inl ⟨rfl, rfl⟩⟩, HE, HB⟩
  case round =>
    clear HE HB
    obtain ⟨k, hk, rfl, HO, HE, HB⟩ := hrel
    obtain ⟨A, kc, rfl⟩ := own_form HO.out
    have cB := HB.out.cells
    by_cases hlt : k < c.ins.length
    · go_wp2_with fail
      refine (leads_any _ c (k : Int) _ (HC.out.mono HE.out)).mono ?_
      rintro e w1 ⟨rfl, hb⟩
      have HO1 := Lib.hid (own_ext HO.out hb)
      have HE1 := Lib.hid (HE.out.trans hb)
      have HB1 := Lib.hid (HB.out.ext hb)
      clear hb cB
      cases hv : leadsB c (k : Int)
      · have HS := Lib.hid (show tr c (k + 1) = tr c k by rw [tr_succ, hv]; simp)
        clear hv
        go_wp2_with fail
        exact ⟨⟨k + 1, by omega, by go_num, Lib.hid (by rw [HS.out]; exact HO1.out), HE1, HB1⟩, by simp [intOf]; omega⟩
      · have HS := Lib.hid (show tr c (k + 1) = tr c k ++ [(k : Int)] by rw [tr_succ, hv]; simp)
        have hln := tr_len c k
        clear hv
        go_wp2_with (at_builtin; refine wpList_append_own _ rfl _ _ 39 rfl w.heap.size 3 i0 (.int .i64 0) 1 8 Try.underlying39 HI.out HZ0.out HZ1.out HZ2.out rfl (by decide) (.slice A (tr c k).length kc) (tr c k).length ((tr c k).map encI) rfl (HO1.out.alloc _) ⟨w1.heap.size, 0, none⟩ 1 1 [.int .i64 (k : Int)] rfl rfl ?c1 ?c2 ?c3 ?c4 ?c5 ?_)
        case c1 =>
          intro j u hu
          match j, hu with
          | 0, hu =>
            simp only [List.getElem?_cons_zero, Option.some.injEq] at hu
            subst hu
            exact (Blk.new w1 3 #[.int .i64 (k : Int)]).cells 0
          | j + 1, hu => simp at hu
        case c2 => intro u hu; rw [List.mem_singleton.1 hu]; rfl
        case c3 => unfold maxLen; omega
        case c4 => omega
        case c5 => exact (HE1.out.alloc _).size
        intro v' w2 ho2 hg _
        have HO2 := Lib.hid ho2
        have HE2 := Lib.hid (show Ext w w2 from Below.grown (HE1.out.alloc _) hg (HE1.out.alloc _).size (own_base HO1.out))
        have HB2 := Lib.hid (keep_grown (HO1.out.alloc (.cells #[.int .i64 (k : Int)] 3)) hg (HB1.out.alloc _) (by decide))
        clear ho2 hg
        go_wp2_with fail
        exact ⟨⟨k + 1, by omega, by go_num, Lib.hid (by rw [HS.out, List.map_append, List.length_append]; exact HO2.out), HE2, HB2⟩, by simp [intOf]; omega⟩
    · have e0 : k = c.ins.length := by omega
      have HK := Lib.hid e0
      clear e0
      go_wp2_with fail
      go_ret
      refine ⟨_, rfl, ?_, HE.out⟩
      rw [← HK.out]
      exact HO.out

def okJ (c : CodeD) (z : Int) : Prop := 0 ≤ z ∧ z < c.ins.length
theorem mem_nt (c : CodeD) (zs : List Int) (m z : Int) : z ∈ nt c zs m ↔ z ∈ zs ∨ okJ c z ∧ (m == z) = true := by
  unfold nt okJ
  cases h : inB m 0 ((c.ins.length : Int) - 1) with
  | true =>
    simp only [if_true, List.mem_append, List.mem_singleton, beq_iff_eq]
    simp only [inB, Bool.and_eq_true, decide_eq_true_eq] at h
    constructor
    · rintro (h1 | rfl)
      · exact .inl h1
      · exact .inr ⟨by omega, rfl⟩
    · rintro (h1 | ⟨_, rfl⟩)
      · exact .inl h1
      · exact .inr rfl
  | false =>
    simp only [Bool.false_eq_true, if_false, beq_iff_eq]
    have h2 : ¬ (0 ≤ m ∧ m < c.ins.length) := by
      intro h3
      have : inB m 0 ((c.ins.length : Int) - 1) = true := by simp [inB]; omega
      rw [h] at this; cases this
    constructor
    · exact .inl
    · rintro (h1 | ⟨h3, rfl⟩)
      · exact h1
      · exact absurd h3 h2
theorem isJ_at (b0 b1 b2 : UInt8) : isJ [b0, b1, b2] 0 = ((b0.toNat : Int) == 106) ∧ isJ [b0, b1, b2] 1 = ((b1.toNat : Int) == 106) ∧ isJ [b0, b1, b2] 2 = ((b2.toNat : Int) == 106) := by
  have key : ∀ b : UInt8, (b == 106) = ((b.toNat : Int) == 106) := by
    intro b
    rw [Bool.eq_iff_iff, beq_iff_eq, beq_iff_eq, ← UInt8.toNat_inj]
    show b.toNat = 106 ↔ (b.toNat : Int) = 106
    omega
  exact ⟨key b0, key b1, key b2⟩
theorem mem_tI (c : CodeD) (x : I4) (zs : List Int) (z : Int) : z ∈ tI c x zs 3 ↔ z ∈ zs ∨ okJ c z ∧ jIs x z = true := by
  rcases pt_three x.a with hp | ⟨b0, b1, b2, hp⟩
  · have e : tI c x zs 3 = zs := by simp [tI, hp, isJ]
    have e2 : jIs x z = false := by unfold jIs; rw [hp]
    rw [e, e2]; simp
  · obtain ⟨h0, h1, h2⟩ := isJ_at b0 b1 b2
    have e2 : jIs x z = (((b0.toNat : Int) == 106) && (x.b == z) || ((b1.toNat : Int) == 106) && (x.c == z) || ((b2.toNat : Int) == 106) && (x.d == z)) := by unfold jIs; rw [hp]
    rw [e2]
    simp only [tI, hp, h0, h1, h2, fld]
    cases (b0.toNat : Int) == 106 <;> cases (b1.toNat : Int) == 106 <;> cases (b2.toNat : Int) == 106 <;> simp [mem_nt, and_or_left, or_assoc]
theorem mem_tAll (c : CodeD) (z : Int) : ∀ k, k ≤ c.ins.length → (z ∈ tAll c k ↔ okJ c z ∧ (c.ins.take k).any (fun x => jIs x z) = true)
  | 0, _ => by simp [tAll]
  | k + 1, h => by
    rw [tAll_succ c k (by omega), mem_tI, mem_tAll c z k (by omega), any_snoc _ (by omega : k < c.ins.length), Bool.or_eq_true, and_or_left]
theorem mem_tG (c : CodeD) (z : Int) : ∀ k, k ≤ c.guards.length → (z ∈ tG c k ↔ okJ c z ∧ (c.ins.any (fun x => jIs x z) || (c.guards.take k).any fun g => g.c == z) = true)
  | 0, _ => by
    have := mem_tAll c z c.ins.length (Nat.le_refl _)
    rw [List.take_length] at this
    simpa [tG] using this
  | k + 1, h => by
    rw [tG_succ c k (by omega), mem_nt, mem_tG c z k (by omega), any_snoc _ (by omega : k < c.guards.length), ← Bool.or_assoc, Bool.or_eq_true (c.ins.any _ || _), and_or_left]
theorem mem_targets (c : CodeD) (z : Int) : z ∈ targetsL c ↔ okJ c z ∧ leadsB c z = true := by
  unfold targetsL
  rw [(compact_sort _).2, mem_tG c z _ (Nat.le_refl _), List.take_length]
  rfl
theorem mem_tr (c : CodeD) (z : Int) : z ∈ tr c c.ins.length ↔ okJ c z ∧ leadsB c z = true := by
  unfold tr okJ
  simp only [List.mem_filter, List.mem_map, List.mem_range]
  constructor
  · rintro ⟨⟨i, hi, rfl⟩, h⟩; exact ⟨⟨by omega, by omega⟩, h⟩
  · rintro ⟨⟨h1, h2⟩, h⟩; exact ⟨⟨z.toNat, by omega, by omega⟩, h⟩
theorem tr_asc (c : CodeD) (k : Nat) : (tr c k).Pairwise (· < ·) := by
  unfold tr
  apply List.Pairwise.filter
  rw [List.pairwise_map]
  exact List.pairwise_lt_range.imp (fun h => by omega)
theorem asc_unique : ∀ {xs ys : List Int}, xs.Pairwise (· < ·) → ys.Pairwise (· < ·) → (∀ z, z ∈ xs ↔ z ∈ ys) → xs = ys
  | [], [], _, _, _ => rfl
  | [], y :: ys, _, _, h => absurd ((h y).2 (List.mem_cons_self ..)) (by simp)
  | x :: xs, [], _, _, h => absurd ((h x).1 (List.mem_cons_self ..)) (by simp)
  | x :: xs, y :: ys, hx, hy, h => by
    rw [List.pairwise_cons] at hx hy
    have hxy : x = y := by
      have h1 := (h x).1 (List.mem_cons_self ..)
      have h2 := (h y).2 (List.mem_cons_self ..)
      rcases List.mem_cons.1 h1 with e | e
      · exact e
      · rcases List.mem_cons.1 h2 with e2 | e2
        · exact e2.symm
        · have := hy.1 x e; have := hx.1 y e2; omega
    subst hxy
    congr 1
    refine asc_unique hx.2 hy.2 fun z => ?_
    have h3 := h z
    rw [List.mem_cons, List.mem_cons] at h3
    constructor
    · intro hz
      rcases h3.1 (.inr hz) with e | e
      · subst e; have := hx.1 z hz; omega
      · exact e
    · intro hz
      rcases h3.2 (.inr hz) with e | e
      · subst e; have := hy.1 z hz; omega
      · exact e
theorem targets_same (c : CodeD) : targetsL c = tr c c.ins.length :=
  asc_unique (targets_asc c) (tr_asc c _) fun z => (mem_targets c z).trans (mem_tr c z).symm
end Go.Proofs.Ytagdompikjhnoaa
