/- Runs of plain steps: the next rules are tried in turn. Over any program. -/
import Derived.Test.YtmbaennilhdieaaA17
namespace Go.Proofs.Ytmbaennilhdieaa
open Go.RowKit

class Fc (p : Prop) : Prop where out : p
class FcA (P : Program) (t f : Nat) (o' : outParam Nat) : Prop where
  out : ∀ b o w, (Instr.fieldAt t (.pointer (some ⟨b, o, none⟩)) f).run P w = .ok (.pointer (some ⟨b, o + o', none⟩)) w
class FcA0 (P : Program) (t f : Nat) : Prop where
  out : ∀ b o w, (Instr.fieldAt t (.pointer (some ⟨b, o, none⟩)) f).run P w = .ok (.pointer (some ⟨b, o, none⟩)) w
class FcS (P : Program) (t : Nat) (e : outParam Nat) : Prop where
  out : P.underlying t = some (.slice e)
class FcG (P : Program) (t : Nat) (m : outParam Nat) : Prop where
  out : aggB P t m = true
class FcZ (P : Program) (e : Nat) (sz : outParam Nat) : Prop where
  out : sizeB P e sz = true
def kEq : IntKind → IntKind → Bool
  | .i64, .i64 => true
  | .u64, .u64 => true
  | .u8, .u8 => true
  | .i32, .i32 => true
  | .u32, .u32 => true
  | .u16, .u16 => true
  | .i16, .i16 => true
  | .i8, .i8 => true
  | _, _ => false
theorem kEq_ok {a b : IntKind} (h : kEq a b = true) : a = b := by
  cases a <;> cases b <;> first | rfl | cases h
/-- the value of a plain operation -/
def evO (s : Env) : Op → Option Value
  | .move x => evE s x
  | .assign x => evE s x
  | .unOp .not _ x => match evE s x with | some (.bool b) => some (.bool (!b)) | _ => none
  | .binOp .eql _ x y _ => match evE s x, evE s y with | some (.int k a), some (.int k' b) => bif kEq k k' then some (.bool (decide (a = b))) else none | _, _ => none
  | .binOp .neq _ x y _ => match evE s x, evE s y with | some (.int k a), some (.int k' b) => bif kEq k k' then some (.bool (!decide (a = b))) else none | _, _ => none
  | .binOp .lss _ x y _ => match evE s x, evE s y with | some (.int k a), some (.int k' b) => bif kEq k k' then some (.bool (decide (a < b))) else none | _, _ => none
  | .binOp .leq _ x y _ => match evE s x, evE s y with | some (.int k a), some (.int k' b) => bif kEq k k' then some (.bool (decide (a ≤ b))) else none | _, _ => none
  | .binOp .gtr _ x y _ => match evE s x, evE s y with | some (.int k a), some (.int k' b) => bif kEq k k' then some (.bool (decide (b < a))) else none | _, _ => none
  | .binOp .geq _ x y _ => match evE s x, evE s y with | some (.int k a), some (.int k' b) => bif kEq k k' then some (.bool (decide (b ≤ a))) else none | _, _ => none
  | .pick c x y => match evE s c with | some (.bool true) => evE s x | some (.bool false) => evE s y | _ => none
  | .extract x i => match evE s x with | some (.tuple vs) => vs[i]? | _ => none
  | .nilCheck x => match evE s x with | some (.pointer (some a)) => some (.pointer (some a)) | _ => none
  | _ => none
section
variable {P : Program} {s : Env} {L : List Chunk} {d : Option Nat} {ty : TypeId} {pos : String} {af : Array Edge} {gd : Option (Nat × Bool)} {op : Op} {v : Value}
theorem evO_ok (h : evO s op = some v) : Ev P s (fun _ => True) ⟨d, op, ty, pos, af, gd⟩ v := by
  unfold evO at h
  split at h
  · exact ev_move h
  · exact ev_assign h
  · split at h
    · cases h; exact ev_not ‹_›
    · cases h
  · split at h
    · rename_i k a k' b hx hy
      cases hk : kEq k k' with
      | false => rw [hk] at h; cases h
      | true => rw [hk] at h; cases kEq_ok hk; cases h; exact ev_eq hx hy
    · cases h
  · split at h
    · rename_i k a k' b hx hy
      cases hk : kEq k k' with
      | false => rw [hk] at h; cases h
      | true => rw [hk] at h; cases kEq_ok hk; cases h; exact ev_ne hx hy
    · cases h
  · split at h
    · rename_i k a k' b hx hy
      cases hk : kEq k k' with
      | false => rw [hk] at h; cases h
      | true => rw [hk] at h; cases kEq_ok hk; cases h; exact ev_lt hx hy
    · cases h
  · split at h
    · rename_i k a k' b hx hy
      cases hk : kEq k k' with
      | false => rw [hk] at h; cases h
      | true => rw [hk] at h; cases kEq_ok hk; cases h; exact ev_le hx hy
    · cases h
  · split at h
    · rename_i k a k' b hx hy
      cases hk : kEq k k' with
      | false => rw [hk] at h; cases h
      | true => rw [hk] at h; cases kEq_ok hk; cases h; exact ev_gt hx hy
    · cases h
  · split at h
    · rename_i k a k' b hx hy
      cases hk : kEq k k' with
      | false => rw [hk] at h; cases h
      | true => rw [hk] at h; cases kEq_ok hk; cases h; exact ev_ge hx hy
    · cases h
  · split at h
    · exact ev_pick_t ‹_› h
    · exact ev_pick_f ‹_› h
    · cases h
  · split at h
    · exact ev_extract ‹_› h
    · cases h
  · split at h
    · cases h; exact ev_nilCheck ‹_›
    · cases h
  · cases h
end
/-- the first operation is wanted -/
structure RunT (X : Cx) (ops : Array Oper) (o : Oper) (rest : List Oper) (K : K3) (s : Env) (L : List Chunk) : Prop where
  out : guardE ops s o = some true → RunG X ops (o :: rest) K s L
section
variable {X : Cx} {ops : Array Oper} {K : K3} {s : Env} {L : List Chunk} {l rest : List Oper} {c : Code} {d : Nat} {op : Op} {ty : TypeId} {pos : String} {af : Array Edge} {gd : Option (Nat × Bool)} {v : Value}
theorem toT {o : Oper} (h : RunT X ops o rest K s L) (hg : guardE ops s o = some true := by first | exact rfl | exact g_tt (by assumption) rfl | exact g_ff (by assumption) rfl) : RunG X ops (o :: rest) K s L := h.out hg
theorem toF (k : RunG X ops rest K ((d, undef) :: s) L) (hg : guardE ops s ⟨some d, op, ty, pos, af, gd⟩ = some false := by first | exact rfl | exact g_tf (by assumption) rfl | exact g_ft (by assumption) rfl) (hd : Nat.ble (d + 1) X.n = true := by exact rfl) : RunG X ops (⟨some d, op, ty, pos, af, gd⟩ :: rest) K s L := G_no hg hd k
theorem tE (h : evO s op = some v) (hn : ndef ⟨some d, op, ty, pos, af, gd⟩ = true) (hd : Nat.ble (d + 1) X.n = true) (k : RunG X ops rest K ((d, v) :: s) L) : RunT X ops ⟨some d, op, ty, pos, af, gd⟩ rest K s L := ⟨fun hg => G_ev (evO_ok h) hn hg hd k⟩
theorem tP {c x y : Operand} {g : Bool} (hc : evE s c = some (.bool g)) (hg : g = true) (hx : evE s x = some v) (hd : Nat.ble (d + 1) X.n = true) (k : RunG X ops rest K ((d, v) :: s) L) : RunT X ops ⟨some d, .pick c x y, ty, pos, af, gd⟩ rest K s L := ⟨fun hh => G_ev (ev_pick_t' hg hc hx) rfl hh hd k⟩
theorem tQ {c x y : Operand} {g : Bool} (hc : evE s c = some (.bool g)) (hg : g = false) (hy : evE s y = some v) (hd : Nat.ble (d + 1) X.n = true) (k : RunG X ops rest K ((d, v) :: s) L) : RunT X ops ⟨some d, .pick c x y, ty, pos, af, gd⟩ rest K s L := ⟨fun hh => G_ev (ev_pick_f' hg hc hy) rfl hh hd k⟩
theorem tF0 {t f : Nat} {x : Operand} {b o : Nat} [h : FcA0 X.P t f] (hx : evE s x = some (.pointer (some ⟨b, o, none⟩))) (hd : Nat.ble (d + 1) X.n = true) (k : RunG X ops rest K ((d, .pointer (some ⟨b, o, none⟩)) :: s) L) : RunT X ops ⟨some d, .fieldAddr t x f, ty, pos, af, gd⟩ rest K s L := ⟨fun hh => G_ev (ev_fa0 hx h.out) rfl hh hd k⟩
theorem tF {t f o' : Nat} {x : Operand} {b o : Nat} [h : FcA X.P t f o'] (hx : evE s x = some (.pointer (some ⟨b, o, none⟩))) (hd : Nat.ble (d + 1) X.n = true) (k : RunG X ops rest K ((d, .pointer (some ⟨b, o + o', none⟩)) :: s) L) : RunT X ops ⟨some d, .fieldAddr t x f, ty, pos, af, gd⟩ rest K s L := ⟨fun hh => G_ev (ev_fa hx h.out) rfl hh hd k⟩
theorem tB {t bt : TypeId} {x : Operand} {b o : Nat} {cs : List Value} [hu : Fc (oneB X.P t = true)] (i : Nat) (hi : L[i]? = some (boxC b bt cs)) (hx : evE s x = some (.pointer (some ⟨b, o, none⟩))) (hc : cs[o]? = some v) (hd : Nat.ble (d + 1) X.n = true) (k : RunG X ops rest K ((d, v) :: s) L) : RunT X ops ⟨some d, .load t x, ty, pos, af, gd⟩ rest K s L := ⟨fun hh => G_rd (rd_box1 i hi hx hu.out hc) rfl hh hd k⟩
theorem isR (h : RunG X ops l K s L) : RunG X ops l K s L := h
theorem isJ {s2 : Env} {L2 : List Chunk} (h : RunG X ops l (JoinG s2 L2) s L) : RunG X ops l (JoinG s2 L2) s L := h
theorem isC {o : Oper} {l' : List Oper} (hl : l' = o :: l) (h : RunG X ops (o :: l) K s L) : RunG X ops l' K s L := hl ▸ h
theorem isN {l' : List Oper} (hl : l' = []) (h : K .normal s L) : RunG X ops l' K s L := hl ▸ G_nil h
theorem isF {id : Nat} {g : Operand} {ps : Array Nat} {x y : Code} (h : Wq X (.block id (.rangeFunc g ps x y)) K s L) : Wq X (.block id (.rangeFunc g ps x y)) K s L := h
theorem isW (h : Wq X c K s L) : Wq X c K s L := h
end
structure Bxd (q : Prop) : Prop where un : q
theorem run {p q : Prop} (k : q) (h : Bxd q → p := by
  intro k
  repeat (first
    | (with_reducible refine isR ?_
       refine isC rfl ?_
       first
         | (refine toT ?_
            first
              | refine tE rfl rfl rfl ?_
              | refine tF0 rfl rfl ?_
              | refine tF rfl rfl ?_
              | refine tB 0 rfl rfl rfl rfl ?_
              | refine tB 1 rfl rfl rfl rfl ?_
              | refine tB 2 rfl rfl rfl rfl ?_
              | refine tB 3 rfl rfl rfl rfl ?_
              | refine tB 4 rfl rfl rfl rfl ?_
              | refine tB 5 rfl rfl rfl rfl ?_
              | refine tB 6 rfl rfl rfl rfl ?_
              | refine tB 7 rfl rfl rfl rfl ?_
              | refine tP rfl (by assumption) rfl rfl ?_
              | refine tQ rfl (by assumption) rfl rfl ?_)
         | refine toF ?_)
    | (with_reducible refine isR ?_
       fail_if_success with_reducible refine isJ ?_
       refine isN rfl ?_)
    | (with_reducible refine isW ?_
       first
         | refine G_seq (G_region ?_)
         | with_reducible refine G_region ?_
         | with_reducible refine G_skip ?_
         | (fail_if_success with_reducible refine isF ?_
            with_reducible refine G_block ?_)
         | with_reducible refine G_ret ?_
         | with_reducible refine G_exit ?_)
    | with_reducible refine nx_n ?_
    | with_reducible refine bk_n ?_
    | with_reducible refine bk_r ?_
    | with_reducible refine bk_x ?_
    | with_reducible refine nx_r ?_
    | with_reducible refine nx_e ?_)
  exact k.un) : p := h ⟨k⟩
theorem runE {p q : Prop} (k : q) (h : Bxd q → p := by
  intro k
  repeat (first
    | (with_reducible refine isR ?_
       refine isC rfl ?_
       first
         | (refine toT ?_
            first
              | refine tE rfl rfl rfl ?_
              | refine tF0 rfl rfl ?_
              | refine tF rfl rfl ?_
              | refine tB 0 rfl rfl rfl rfl ?_
              | refine tB 1 rfl rfl rfl rfl ?_
              | refine tB 2 rfl rfl rfl rfl ?_
              | refine tB 3 rfl rfl rfl rfl ?_
              | refine tB 4 rfl rfl rfl rfl ?_
              | refine tB 5 rfl rfl rfl rfl ?_
              | refine tB 6 rfl rfl rfl rfl ?_
              | refine tB 7 rfl rfl rfl rfl ?_
              | refine tP rfl (by assumption) rfl rfl ?_
              | refine tQ rfl (by assumption) rfl rfl ?_)
         | refine toF ?_))
  exact k.un) : p := h ⟨k⟩
theorem runS {p q : Prop} (k : q) (h : Bxd q → p := by
  intro k
  repeat (first
    | (with_reducible refine isR ?_
       fail_if_success with_reducible refine isJ ?_
       refine isN rfl ?_)
    | (with_reducible refine isW ?_
       first
         | refine G_seq (G_region ?_)
         | with_reducible refine G_region ?_
         | with_reducible refine G_skip ?_
         | (fail_if_success with_reducible refine isF ?_
            with_reducible refine G_block ?_)
         | with_reducible refine G_ret ?_
         | with_reducible refine G_exit ?_)
    | with_reducible refine nx_n ?_
    | with_reducible refine bk_n ?_
    | with_reducible refine bk_r ?_
    | with_reducible refine bk_x ?_
    | with_reducible refine nx_r ?_
    | with_reducible refine nx_e ?_)
  exact k.un) : p := h ⟨k⟩
end Go.Proofs.Ytmbaennilhdieaa
