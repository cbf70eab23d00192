/- Keys: what makes a canonical index, as plain functions on lists of bytes. No program here. -/
import Derived.Test.YtmiecljgcbfklaaMem
import Derived.Lib.IndexBytes
namespace Go.Proofs.Ytmiecljgcbfklaa

def isD (b : UInt8) : Bool := decide (48 ≤ (b.toNat : Int)) && decide ((b.toNat : Int) ≤ 57)
def dv (l : List UInt8) : Int := l.foldl (fun n b => 10 * n + ((b.toNat : Int) - 48)) 0
def shut (l : List UInt8) : Bool := l.isEmpty || decide (10 < l.length) || (l.head? == some 48 && decide (1 < l.length))
/-- the canonical index that l denotes, and whether it denotes one -/
def idx (l : List UInt8) : Int × Bool := if shut l then (0, false) else if l.all isD && decide (dv l ≤ 4294967294) then (dv l, true) else (0, false)
def keyB (k : V3) : Bool :=
  if k.k = 0 then k.s.data.toList.isEmpty && decide (0 ≤ k.n) && decide (k.n ≤ 4294967294)
  else if k.k = 1 then decide (k.n = 0) && decide (k.s.size ≤ 65536) && !(idx k.s.data.toList).2
  else if k.k = 2 then k.s.data.toList.isEmpty && decide (1 ≤ k.n) else false

theorem dv_snoc (l : List UInt8) (b : UInt8) : dv (l ++ [b]) = 10 * dv l + ((b.toNat : Int) - 48) := by simp [dv]
theorem all_snoc (l : List UInt8) (b : UInt8) : (l ++ [b]).all isD = (l.all isD && isD b) := by simp
theorem dv_bd : ∀ (n : Nat) (l : List UInt8), l.length = n → l.all isD = true → 0 ≤ dv l ∧ dv l < 10 ^ n := by
  intro n
  induction n with
  | zero => intro l hl _; rw [List.eq_nil_of_length_eq_zero hl]; simp [dv]
  | succ n ih =>
    intro l hl ha
    have hne : l ≠ [] := by intro h; rw [h] at hl; simp at hl
    have e := (List.dropLast_concat_getLast hne).symm
    rw [e, all_snoc, Bool.and_eq_true] at ha
    obtain ⟨h1, h2⟩ := ih l.dropLast (by simp; omega) ha.1
    have h3 : 48 ≤ ((l.getLast hne).toNat : Int) ∧ ((l.getLast hne).toNat : Int) ≤ 57 := by simpa [isD] using ha.2
    rw [e, dv_snoc, Int.pow_succ]
    omega
theorem dv_le (l : List UInt8) (h : l.length ≤ 10) (ha : l.all isD = true) : 0 ≤ dv l ∧ dv l ≤ 9999999999 := by
  obtain ⟨h1, h2⟩ := dv_bd _ l rfl ha
  refine ⟨h1, ?_⟩
  have h3 : (10 : Int) ^ l.length ≤ 10 ^ 10 := by
    have : 10 ^ l.length ≤ 10 ^ 10 := Nat.pow_le_pow_right (by omega) h
    exact_mod_cast this
  have h4 : (10 : Int) ^ 10 = 10000000000 := by decide
  omega
theorem dv_le9 (l : List UInt8) (h : l.length ≤ 9) (ha : l.all isD = true) : 0 ≤ dv l ∧ dv l ≤ 999999999 := by
  obtain ⟨h1, h2⟩ := dv_bd _ l rfl ha
  refine ⟨h1, ?_⟩
  have h3 : (10 : Int) ^ l.length ≤ 10 ^ 9 := by
    have : 10 ^ l.length ≤ 10 ^ 9 := Nat.pow_le_pow_right (by omega) h
    exact_mod_cast this
  have h4 : (10 : Int) ^ 9 = 1000000000 := by decide
  omega

theorem take_snoc (s : ByteArray) (k : Nat) (h : k < s.size) : s.data.toList.take (k + 1) = s.data.toList.take k ++ [s[k]] := by
  rw [List.take_succ_eq_append_getElem (by simpa using h)]; rfl
theorem not_all_of (s : ByteArray) (k : Nat) (h : k < s.size) (hd : isD s[k] = false) : s.data.toList.all isD = false := by
  rw [← Bool.not_eq_true, List.all_eq_true]
  intro ha
  have hm : s[k] ∈ s.data.toList := by
    have : s.data.toList[k]'(by simpa using h) = s[k] := rfl
    rw [← this]
    exact List.getElem_mem _
  have := ha _ hm
  rw [hd] at this
  cases this
end Go.Proofs.Ytmiecljgcbfklaa
