/- CodeMore: what more registers and an appended Nop do to a code object. -/
import Derived.Test.YtagdompikjhnoaaPlaces
import Derived.Test.YtagdompikjhnoaaSmall
namespace Go.Proofs.Ytagdompikjhnoaa

def nop : I4 := ⟨0, 0, 0, 0⟩
def moreC (c : CodeD) (r : Int) : CodeD := { c with regs := r, ins := c.ins ++ [nop] }
theorem pt0 : pt 0 = [45, 45, 45] := by decide +kernel

theorem in_le {n lo hi hi' : Int} (h : hi ≤ hi') (hp : inB n lo hi = true) : inB n lo hi' = true := by
  simp only [inB, Bool.and_eq_true, decide_eq_true_eq] at hp ⊢
  omega
theorem more_len (c : CodeD) (r : Int) : ((moreC c r).ins.length : Int) = c.ins.length + 1 := by simp [moreC]
theorem part_more {c : CodeD} {r : Int} (h : c.regs ≤ r) (g n : Int) (hp : partB c g n = true) : partB (moreC c r) g n = true := by
  have hr : c.regs ≤ (moreC c r).regs := h
  have hl := more_len c r
  unfold partB at hp ⊢
  by_cases g114 : g = 114
  · rw [if_pos g114] at hp ⊢
    exact in_le (by omega) hp
  rw [if_neg g114] at hp ⊢
  by_cases g100 : g = 100
  · rw [if_pos g100] at hp ⊢
    exact in_le (by omega) hp
  rw [if_neg g100] at hp ⊢
  by_cases g113 : g = 113
  · rw [if_pos g113] at hp ⊢
    simp only [Bool.and_eq_true, decide_eq_true_eq] at hp ⊢
    omega
  rw [if_neg g113] at hp ⊢
  by_cases g116 : g = 116
  · rw [if_pos g116] at hp ⊢
    simp only [Bool.and_eq_true, decide_eq_true_eq] at hp ⊢
    omega
  rw [if_neg g116] at hp ⊢
  by_cases g112 : g = 112
  · rw [if_pos g112] at hp ⊢
    exact hp
  rw [if_neg g112] at hp ⊢
  by_cases g111 : g = 111
  · rw [if_pos g111] at hp ⊢
    exact hp
  rw [if_neg g111] at hp ⊢
  by_cases g107 : g = 107
  · rw [if_pos g107] at hp ⊢
    exact hp
  rw [if_neg g107] at hp ⊢
  by_cases g103 : g = 103
  · rw [if_pos g103] at hp ⊢
    exact hp
  rw [if_neg g103] at hp ⊢
  by_cases g102 : g = 102
  · rw [if_pos g102] at hp ⊢
    exact hp
  rw [if_neg g102] at hp ⊢
  by_cases g106 : g = 106
  · rw [if_pos g106] at hp ⊢
    exact in_le (by omega) hp
  rw [if_neg g106] at hp ⊢
  exact hp

theorem ins_more {c : CodeD} {r : Int} (h : c.regs ≤ r) (x : I4) (hp : insB c x = true) : insB (moreC c r) x = true := by
  unfold insB at hp ⊢
  split at hp
  · simp only [Bool.and_eq_true] at hp ⊢
    exact ⟨⟨part_more h _ _ hp.1.1, part_more h _ _ hp.1.2⟩, part_more h _ _ hp.2⟩
  · cases hp
theorem ins_nop (c : CodeD) : insB c nop = true := by
  unfold insB nop
  rw [pt0]
  simp [partB]

theorem guard_more {c : CodeD} {r : Int} (h : c.regs ≤ r) (g : I4) (hp : guardB c g = true) : guardB (moreC c r) g = true := by
  have hr : c.regs ≤ (moreC c r).regs := h
  have hl := more_len c r
  unfold guardB at hp ⊢
  simp only [inB, Bool.and_eq_true, decide_eq_true_eq] at hp ⊢
  omega

theorem right_more {c : CodeD} {r : Int} (h : c.regs ≤ r) (hr : r ≤ 4096) (hs : c.ins.length ≤ 200) (hp : rightB c = true) : rightB (moreC c r) = true := by
  unfold rightB preB evB at hp ⊢
  simp only [Bool.and_eq_true, List.all_eq_true, decide_eq_true_eq] at hp ⊢
  obtain ⟨⟨⟨⟨⟨⟨⟨⟨⟨p1, p2⟩, p3⟩, p4⟩, p5⟩, p6⟩, q1⟩, q2⟩, -, q3⟩, q4, q5⟩ := hp
  refine ⟨⟨⟨⟨⟨⟨⟨⟨⟨p1, p2⟩, ?_⟩, p4⟩, p5⟩, p6⟩, q1⟩, q2⟩, ?_, ?_⟩, q4, fun g hg => guard_more h g (q5 g hg)⟩
  · have e : (moreC c r).regs = r := rfl
    simp only [inB, Bool.and_eq_true, decide_eq_true_eq] at p3 ⊢
    omega
  · simp [moreC]; omega
  · intro x hx
    rcases List.mem_append.1 hx with hx | hx
    · exact ins_more h x (q3 x hx)
    · rw [List.mem_singleton.1 hx]; exact ins_nop _

theorem nt_more {c : CodeD} {r : Int} (zs : List Int) (n : Int) (h : inB n 0 ((c.ins.length : Int) - 1) = true) : nt (moreC c r) zs n = nt c zs n := by
  unfold nt
  rw [if_pos h, if_pos]
  have hl := more_len c r
  exact in_le (by omega) h

theorem tI_more {c : CodeD} {r : Int} (x : I4) (zs : List Int) (hx : insB c x = true) (j : Nat) (hj : j ≤ 3) : tI (moreC c r) x zs j = tI c x zs j := by
  induction j with
  | zero => rfl
  | succ j ih =>
    unfold tI
    rw [ih (by omega)]
    split
    · rename_i h1
      refine nt_more _ _ ?_
      unfold insB at hx
      unfold isJ at h1
      split at hx
      · rename_i b0 b1 b2 hb
        simp only [Bool.and_eq_true] at hx
        rw [hb] at h1
        match j, hj with
        | 0, _ =>
          have e : b0 = 106 := by simpa using h1
          subst e
          simpa [partB, fld] using hx.1.1
        | 1, _ =>
          have e : b1 = 106 := by simpa using h1
          subst e
          simpa [partB, fld] using hx.1.2
        | 2, _ =>
          have e : b2 = 106 := by simpa using h1
          subst e
          simpa [partB, fld] using hx.2
      · cases hx
    · rfl

theorem fold_same {α β : Type} {f g : β → α → β} : ∀ (l : List α) (b : β), (∀ b, ∀ a ∈ l, f b a = g b a) → l.foldl f b = l.foldl g b
  | [], _, _ => rfl
  | a :: l, b, h => by
    rw [List.foldl_cons, List.foldl_cons, h b a (List.mem_cons_self ..)]
    exact fold_same l _ fun b x hx => h b x (List.mem_cons_of_mem _ hx)

theorem targets_more {c : CodeD} (r : Int) (hp : rightB c = true) : targetsL (moreC c r) = targetsL c := by
  unfold rightB evB at hp
  simp only [Bool.and_eq_true, List.all_eq_true, decide_eq_true_eq] at hp
  obtain ⟨⟨-, -, q3⟩, -, q5⟩ := hp
  have e1 : tAll (moreC c r) (moreC c r).ins.length = tAll c c.ins.length := by
    unfold tAll
    rw [List.take_length, List.take_length]
    show (c.ins ++ [nop]).foldl _ _ = _
    rw [List.foldl_append, fold_same (g := fun zs x => tI c x zs 3) c.ins [] fun b a ha => tI_more a b (q3 a ha) 3 (Nat.le_refl _)]
    show tI _ nop _ 3 = _
    have h0 : ∀ j, isJ (pt nop.a) j = false := by
      intro j
      show isJ (pt 0) j = false
      rw [pt0]
      unfold isJ
      match j with
      | 0 => rfl
      | 1 => rfl
      | 2 => rfl
      | j + 3 => rfl
    simp [tI, h0]
  unfold targetsL tG
  rw [e1]
  show Lib.compact (sortL ((c.guards.take c.guards.length).foldl _ _)) = _
  rw [fold_same (g := fun zs g => nt c zs g.c)]
  intro b g hg
  refine nt_more _ _ ?_
  have := q5 g (List.mem_of_mem_take hg)
  unfold guardB at this
  simp only [Bool.and_eq_true] at this
  exact this.1.2

theorem more_ne (c : CodeD) (r : Int) : [c] ≠ [moreC c r] := by
  intro h
  have h1 := congrArg (fun l => l.map fun x : CodeD => x.ins.length) h
  simp [moreC] at h1
end Go.Proofs.Ytagdompikjhnoaa
