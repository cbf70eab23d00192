/- A region that draws its order: what each operation yields is told by an assertion that new memory does not break. Over any program. -/
import Derived.Test.YtagdompikjhnoaaRegion
import Derived.Test.YtagdompikjhnoaaMem
namespace Go.Proofs.Ytagdompikjhnoaa

def dstOf (ops : Array Oper) (j : Nat) : Option Nat := (ops[j]?).bind (·.dst)
def dstsOnce (ops : Array Oper) : Bool := (List.range ops.size).all fun i => (List.range ops.size).all fun j => decide (i = j) || decide (dstOf ops i = none) || decide (dstOf ops i ≠ dstOf ops j)
def free (ops : Array Oper) (k : Nat) : Bool := ops.all fun o => decide (o.dst ≠ some k)

theorem once_ne {ops : Array Oper} (h : dstsOnce ops = true) {i j d : Nat} (hi : i < ops.size) (hj : j < ops.size) (hij : i ≠ j) (hd : dstOf ops i = some d) : dstOf ops j ≠ some d := by
  have h1 := List.all_eq_true.1 (List.all_eq_true.1 h i (List.mem_range.2 hi)) j (List.mem_range.2 hj)
  rw [hd] at h1
  intro h2
  simp [hij, h2] at h1

theorem region_mono {P : Program} {ops : Array Oper} {Q : Exit → Act → World → Prop} {id n : Nat} {a0 : Act} {w0 : World} (w1 : World) (R : Nat → World → Value → Prop)
    (hm : P.follows .mixedOrders = true) (he : edgesBack ops = true) (hn : a0.tmps.size = n) (hd : dstsIn ops n = true) (hu : dstsOnce ops = true)
    (hR : ∀ i w w' v, Ext w w' → R i w v → R i w' v)
    (h0 : Ext w1 w0.drew)
    (hstep : ∀ (i : Nat) (o : Oper) (s : Nat → Value) (w : World), ops[i]? = some o → Ext w1 w → (∀ k, free ops k = true → s k = sl a0 k) →
      (∀ e ∈ o.after, Region.binds .any e = true → ∀ d, dstOf ops e.on = some d → R e.on w (s d)) →
      (Region.wanted o (yieldF ops s) = true → Runs P o s w fun v w' => Ext w w' ∧ R i w' v) ∧ (Region.wanted o (yieldF ops s) = false → R i w undef))
    (hend : ∀ (a : Act) (w : World), Ext w1 w → a.tmps.size = n → a.defers = a0.defers → (∀ k, free ops k = true → sl a k = sl a0 k) → (∀ i d, dstOf ops i = some d → R i w (sl a d)) → Q .normal a w) :
    (Code.region id ops true).wp P Q a0 w0 := by
  have key : ∀ (i : Nat) (o : Oper) (l : Nat → Bool) (s : Nat → Value) (w w' : World) (v : Value), ops[i]? = some o → Ext w1 w → Ext w w' → (∀ k, free ops k = true → s k = sl a0 k) →
      (∀ j d, l j = true → dstOf ops j = some d → R j w (s d)) → R i w' v →
      Ext w1 w' ∧ (∀ k, free ops k = true → upo s o.dst v k = sl a0 k) ∧ (∀ j d, up l i true j = true → dstOf ops j = some d → R j w' (upo s o.dst v d)) := by
    intro i o l s w w' v ho hx hxx hf hv hr
    have hio : i < ops.size := (Array.getElem?_eq_some_iff.1 ho).1
    have hdo : dstOf ops i = o.dst := by simp [dstOf, ho]
    refine ⟨hx.trans hxx, fun k hk => ?_, fun j d hj hjd => ?_⟩
    · cases hod : o.dst with
      | none => exact hf k hk
      | some q =>
        have h1 := (Array.all_eq_true_iff_forall_mem.1 hk) o (Array.mem_of_getElem? ho)
        rw [hod] at h1
        have h2 : k ≠ q := fun e => by simp [e] at h1
        show up s q v k = _
        rw [up_other _ _ h2]
        exact hf k hk
    · have hjo : j < ops.size := by
        unfold dstOf at hjd
        rcases Nat.lt_or_ge j ops.size with h | h
        · exact h
        · simp [h] at hjd
      by_cases e : j = i
      · subst e
        rw [hdo] at hjd
        rw [hjd]
        show R j w' (up s d v d)
        rw [up_same]
        exact hr
      · rw [up_other _ _ e] at hj
        have h3 := hR _ _ _ _ hxx (hv j d hj hjd)
        cases hod : o.dst with
        | none => exact h3
        | some q =>
          have h4 : d ≠ q := by
            rintro rfl
            exact once_ne hu hjo hio e hjd (hdo.trans hod)
          show R j w' (up s q v d)
          rw [up_other _ _ h4]
          exact h3
  refine region_fun (n := n) (fun l s w => Ext w1 w ∧ (∀ k, free ops k = true → s k = sl a0 k) ∧ (∀ j d, l j = true → dstOf ops j = some d → R j w (s d))) hm he hn hd ⟨h0, fun _ _ => rfl, fun _ _ h => Bool.noConfusion h⟩ ?_ ?_
  · rintro i o l s w ho hdep - ⟨hx, hf, hv⟩
    have hs := hstep i o s w ho hx hf (fun e he hb d hde => hv _ _ (hdep e he hb) hde)
    refine ⟨fun hw => ?_, fun hw => key i o l s w w undef ho hx (Ext.refl w) hf hv (hs.2 hw)⟩
    have h1 := hs.1 hw
    unfold Runs at h1 ⊢
    generalize (execOp (ev s) o).run P w = r at h1 ⊢
    cases r with
    | ok x w' =>
      cases x
      case value v => exact key i o l s w w' v ho hx h1.1 hf hv h1.2
      case skip => exact key i o l s w w' undef ho hx h1.1 hf hv h1.2
      case enter f args =>
        refine Calls.mono h1 ?_
        rintro e w'' ⟨v, rfl, h2, h3⟩
        exact ⟨v, rfl, key i o l s w w'' v ho hx h2 hf hv h3⟩
      all_goals exact h1.elim
    | halt x w' => exact h1.elim
  · rintro l a w hall h1 h2 ⟨hx, hf, hv⟩
    refine hend a w hx h1 h2 hf fun i d hid => hv i d (hall i ?_) hid
    unfold dstOf at hid
    rcases Nat.lt_or_ge i ops.size with h | h
    · exact h
    · simp [h] at hid

theorem wanted_on {ops : Array Oper} {s : Nat → Value} {o : Oper} {j d : Nat} {b : Bool} (hg : o.guard = some (j, b)) (hj : dstOf ops j = some d) (hs : s d = .bool b) : Region.wanted o (yieldF ops s) = true := by
  unfold Region.wanted yieldF
  unfold dstOf at hj
  simp [hg, hj, hs]
theorem wanted_off {ops : Array Oper} {s : Nat → Value} {o : Oper} {j d : Nat} {b c : Bool} (hg : o.guard = some (j, b)) (hj : dstOf ops j = some d) (hs : s d = .bool c) (hc : c ≠ b) : Region.wanted o (yieldF ops s) = false := by
  unfold Region.wanted yieldF
  unfold dstOf at hj
  simp [hg, hj, hs, hc]
theorem wanted_free {ops : Array Oper} {s : Nat → Value} {o : Oper} (hg : o.guard = none) : Region.wanted o (yieldF ops s) = true := by
  unfold Region.wanted
  simp [hg]
end Go.Proofs.Ytagdompikjhnoaa
