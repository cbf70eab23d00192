/- Shapes: what is found in a table (plain), equality of keys. -/
import Derived.Test.YtmiecljgcbfklaaShape2
import Derived.WideShapes
namespace Go.Proofs.Ytmiecljgcbfklaa
open Go.RowKit

theorem bytes_eq {a b : ByteArray} : a.toList = b.toList ↔ a = b := by
  constructor
  · intro h
    rw [ByteArray.toList_eq, ByteArray.toList_eq] at h
    exact WideShapes.bytes_inj h
  · rintro rfl; rfl
theorem guard31 : Try.prog.eqGuardType Try.prog.depth 31 = false := by kernel_rfl
theorem equal_key (k k' : V3) (w : World) : (Op.equalIn 10000 31 (.agg (en3 k).toArray) (.agg (en3 k').toArray)).run Try.prog w = .ok (decide (k = k')) w := by
  obtain ⟨a, b, s⟩ := k
  obtain ⟨a', b', s'⟩ := k'
  show (Op.equalIn 10000 31 (.agg #[.int .i64 a, .int .i64 b, .string s]) (.agg #[.int .i64 a', .int .i64 b', .string s'])).run Try.prog w = _
  go_simp
  simp only [bytes_eq]
  by_cases h1 : a = a' <;> by_cases h2 : b = b' <;> by_cases h3 : s = s' <;> simp [h1, h2, h3]
section
variable {s : Env} {C : World → Prop} {d : Option Nat} {ty : TypeId} {pos : String} {af : Array Edge} {gd : Option (Nat × Bool)}
theorem ev_keyeq {u : TypeId} {x y : Operand} {k k' : V3} (hx : evE s x = some (.agg (en3 k).toArray)) (hy : evE s y = some (.agg (en3 k').toArray)) : Ev Try.prog s C ⟨d, .binOp .eql 31 x y u, ty, pos, af, gd⟩ (.bool (decide (k = k'))) :=
  ev_bin hx hy fun w => by
    rw [Sem.run_bind, run_eqGuard_agg w _ _ _ _ _ _ guard31]
    simp only [Result.andThen_ok]
    rw [run_eql_struct, equal_key]
    rfl
end
theorem shKey {w : World} {b o : Nat} {x : ShD} (h : CellsAt w b o (enS x)) : CellsAt w b (o + 1) (en3 x.key) := h.part 1 3
theorem shUp {w : World} {b o : Nat} {x : ShD} (h : CellsAt w b o (enS x)) : w.cell? ⟨b, o, none⟩ = some (.int .i64 x.up) := h 0 _ rfl
theorem shAttrs {w : World} {b o : Nat} {x : ShD} (h : CellsAt w b o (enS x)) : w.cell? ⟨b, o + 4, none⟩ = some (.int .i64 x.attrs) := h 4 _ rfl
theorem shLen {w : World} {b o : Nat} {x : ShD} (h : CellsAt w b o (enS x)) : w.cell? ⟨b, o + 5, none⟩ = some (.int .i64 x.len) := h 5 _ rfl

/-- a table as the package makes it -/
structure WF (T : List ShD) : Prop where
  size : T.length ≤ 1073741824
  head : T[0]? = some root
  up : ∀ i x, T[i]? = some x → 0 < i → ∃ (u : Nat) (y : ShD), x.up = (u : Int) ∧ u < i ∧ T[u]? = some y ∧ x.len = y.len + 1
theorem WF.len {T : List ShD} (h : WF T) : ∀ (i : Nat) (x : ShD), T[i]? = some x → 0 ≤ x.len ∧ x.len ≤ i ∧ (0 < i → 0 < x.len) := by
  intro i
  induction i using Nat.strongRecOn with
  | _ i ih =>
    intro x hx
    rcases Nat.eq_zero_or_pos i with rfl | hi
    · rw [h.head] at hx
      obtain rfl := Option.some.inj hx
      exact ⟨by decide, by decide, fun h => absurd h (by decide)⟩
    · obtain ⟨u, y, h1, h2, h3, h4⟩ := h.up i x hx hi
      obtain ⟨h5, h6, -⟩ := ih u h2 y h3
      omega
/-- the place and the attributes of a key -/
def findL (T : List ShD) (k : V3) (i : Nat) : Option (Int × Int) :=
  match T[i]? with
  | none => none
  | some x => if 0 < x.len then (if x.key = k then some (x.len - 1, x.attrs) else if _h : x.up.toNat < i then findL T k x.up.toNat else none) else none
termination_by i
def beforeL (T : List ShD) (n : Int) (i : Nat) : Nat :=
  match T[i]? with
  | none => i
  | some x => if n < x.len then (if _h : x.up.toNat < i then beforeL T n x.up.toNat else i) else i
termination_by i
/-- the shapes from the first property to the last -/
def rowL (T : List ShD) (i : Nat) : List ShD :=
  match T[i]? with
  | none => []
  | some x => if _h : 0 < x.len ∧ x.up.toNat < i then rowL T x.up.toNat ++ [x] else []
termination_by i
def foundT : Option (Int × Int) → Array Value
  | some (a, b) => #[.int .i64 a, .int .i64 b, .bool true]
  | none => #[.int .i64 0, .int .i64 0, .bool false]
def inT (T : List ShD) (n : Int) : Bool := decide (0 ≤ n) && decide (n < T.length)
def findT (T : List ShD) (k : V3) (n : Int) : Option (Int × Int) := if inT T n then findL T k n.toNat else none
def askedE (T : List ShD) (n : Int) (k : V3) (a : Int) : Int := if inT T n then (if keyB k && mayB a then 0 else 1) else 2
theorem find_zero {T : List ShD} {k : V3} {i : Nat} {x : ShD} (hx : T[i]? = some x) (h : ¬ 0 < x.len) : findL T k i = none := by
  unfold findL; rw [hx]; simp [h]
theorem find_here {T : List ShD} {k : V3} {i : Nat} {x : ShD} (hx : T[i]? = some x) (h : 0 < x.len) (hk : x.key = k) : findL T k i = some (x.len - 1, x.attrs) := by
  unfold findL; rw [hx]; simp [h, hk]
theorem find_up {T : List ShD} {k : V3} {i u : Nat} {x : ShD} (hx : T[i]? = some x) (h : 0 < x.len) (hk : ¬ x.key = k) (hu : x.up = (u : Int)) (hlt : u < i) : findL T k i = findL T k u := by
  rw [findL, hx]; simp [h, hk, hu, hlt]
theorem before_here {T : List ShD} {n : Int} {i : Nat} {x : ShD} (hx : T[i]? = some x) (h : ¬ n < x.len) : beforeL T n i = i := by
  unfold beforeL; rw [hx]; simp [h]
theorem before_up {T : List ShD} {n : Int} {i u : Nat} {x : ShD} (hx : T[i]? = some x) (h : n < x.len) (hu : x.up = (u : Int)) (hlt : u < i) : beforeL T n i = beforeL T n u := by
  rw [beforeL, hx]; simp [h, hu, hlt]
theorem row_zero {T : List ShD} {i : Nat} {x : ShD} (hx : T[i]? = some x) (h : ¬ 0 < x.len) : rowL T i = [] := by
  unfold rowL; rw [hx]; simp [h]
theorem row_up {T : List ShD} {i u : Nat} {x : ShD} (hx : T[i]? = some x) (h : 0 < x.len) (hu : x.up = (u : Int)) (hlt : u < i) : rowL T i = rowL T u ++ [x] := by
  rw [rowL, hx]; simp [h, hu, hlt]
theorem inT_get {T : List ShD} {n : Int} (h : inT T n = true) : ∃ (i : Nat) (x : ShD), n = (i : Int) ∧ T[i]? = some x := by
  unfold inT at h
  simp only [Bool.and_eq_true, decide_eq_true_eq] at h
  have hlt : n.toNat < T.length := by omega
  exact ⟨n.toNat, T[n.toNat], by omega, List.getElem?_eq_getElem hlt⟩
theorem inT_of {T : List ShD} {i : Nat} {x : ShD} (h : T[i]? = some x) : inT T (i : Int) = true := by
  have hlt : i < T.length := (List.getElem?_eq_some_iff.1 h).1
  unfold inT
  simp only [Bool.and_eq_true, decide_eq_true_eq]
  omega
theorem row_len {T : List ShD} (h : WF T) : ∀ (i : Nat) (x : ShD), T[i]? = some x → ((rowL T i).length : Int) = x.len := by
  intro i
  induction i using Nat.strongRecOn with
  | _ i ih =>
    intro x hx
    rcases Nat.eq_zero_or_pos i with rfl | hi
    · rw [h.head] at hx
      obtain rfl := Option.some.inj hx
      rw [row_zero h.head (by decide)]
      rfl
    · obtain ⟨u, y, h1, h2, h3, h4⟩ := h.up i x hx hi
      have hp := (h.len i x hx).2.2 hi
      rw [row_up hx hp h1 h2, List.length_append, h4, ← ih u h2 y h3]
      simp
end Go.Proofs.Ytmiecljgcbfklaa
