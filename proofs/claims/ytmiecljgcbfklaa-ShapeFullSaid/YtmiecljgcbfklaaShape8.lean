/- Shapes: the three operations, plain. -/
import Derived.Test.YtmiecljgcbfklaaShape7
namespace Go.Proofs.Ytmiecljgcbfklaa
open Go.RowKit

def layI (T : List ShD) (a : Nat) (l : List ShD) : List ShD × Int × Int := ((layT T a l).1, ((layT T a l).2.1 : Int), (layT T a l).2.2)
def nextT (T : List ShD) (n : Int) (k : V3) (a : Int) : List ShD × Int × Int :=
  if askedE T n k a = 0 then
    (match findL T k n.toNat with
    | some _ => (T, 0, 4)
    | none => if 1024 ≤ lenAt T n.toNat then (T, 0, 9) else layI T n.toNat [⟨0, k, a, 0⟩])
  else (T, 0, askedE T n k a)
def headAttrs (a : Int) : List ShD → List ShD
  | [] => []
  | x :: r => ⟨x.up, x.key, a, x.len⟩ :: r
def changeT (T : List ShD) (n : Int) (k : V3) (a : Int) : List ShD × Int × Int :=
  if askedE T n k a = 0 then
    (match findL T k n.toNat with
    | some (pl, _) => layI T (beforeL T pl n.toNat) (headAttrs a ((rowL T n.toNat).drop pl.toNat))
    | none => (T, 0, 3))
  else (T, 0, askedE T n k a)
def withoutT (T : List ShD) (n : Int) (k : V3) : List ShD × Int × Int :=
  if askedE T n k 0 = 0 then
    (match findL T k n.toNat with
    | some (pl, _) => layI T (beforeL T pl n.toNat) ((rowL T n.toNat).drop (pl.toNat + 1))
    | none => (T, 0, 3))
  else (T, 0, askedE T n k 0)
def TabPost (p b m : Nat) (w : World) (r : List ShD × Int × Int) (e : Ending) (w' : World) : Prop :=
  ∃ b', e = .returned (.tuple #[.int .i64 r.2.1, .int .i64 r.2.2]) ∧ Tab w' p b' m r.1 ∧ WF r.1 ∧ Fr (OwnT p b m) w w' ∧ (b' = b ∨ w.heap.size ≤ b')
theorem lay_post {p b m : Nat} {T : List ShD} (a0 : Nat) (l : List ShD) (A : Option Addr) (c : Nat) (w : World) (hT : Tab w p b m T) (hw : WF T) (ha : a0 < T.length) (hl : SqA w 37 6 enS A l) (hc : l.length ≤ c) (hc2 : c ≤ 9223372036854775807) (hne : 0 < l.length → bl A ≠ b) : Calls Try.prog 20 #[.pointer (some ⟨p, 0, none⟩), .int .i64 a0, .slice A l.length c] w (TabPost p b m w (layI T a0 l)) := lay_any a0 l A c w hT hw ha hl hc hc2 hne
theorem Rw.drop {α : Type} {w : World} {g : Nat} {t : TypeId} {en : α → List Value} {xs : List α} {sz : Nat} (h : Rw w g t en xs) (hs : ∀ x, (en x).length = sz) (pl : Nat) : SqA w t sz en (some ⟨g, pl * sz, none⟩) (xs.drop pl) :=
  ⟨fun _ => rfl, fun _ => ⟨_, _, h⟩, fun {i x} hi => by
    rw [List.getElem?_drop] at hi
    have := h.at hs hi
    show CellsAt w g (pl * sz + i * sz) (en x)
    rw [← Nat.add_mul]
    simpa using this⟩
theorem cut_some (g n l sz : Nat) (h : l < n) : cutA (some ⟨g, 0, none⟩) n l sz = some ⟨g, l * sz, none⟩ := by
  unfold cutA
  rw [if_neg (by omega)]
  simp [at_add']
theorem set_head (a : Int) {xs : List ShD} {pl : Nat} {x : ShD} (h : xs[pl]? = some x) : (xs.set pl ⟨x.up, x.key, a, x.len⟩).drop pl = headAttrs a (xs.drop pl) := by
  have hlt : pl < xs.length := (List.getElem?_eq_some_iff.1 h).1
  rw [List.drop_eq_getElem_cons hlt, (List.getElem?_eq_some_iff.1 h).2, List.drop_eq_getElem_cons (by simpa using hlt)]
  simp [headAttrs, List.drop_set_of_lt]
theorem headAttrs_len (a : Int) (xs : List ShD) : (headAttrs a xs).length = xs.length := by cases xs <;> rfl
theorem Tab.ltb {w : World} {p b m : Nat} {T : List ShD} (h : Tab w p b m T) : b < w.heap.size := by
  obtain ⟨cap, cur, h1, h2, -⟩ := h
  exact h2.lt
theorem TabPost.ext {p b m : Nat} {w0 w : World} {r : List ShD × Int × Int} {e : Ending} {w' : World} (h : TabPost p b m w r e w') (hx : Ext w0 w) : TabPost p b m w0 r e w' := by
  obtain ⟨b', h1, h2, h3, h4, h5⟩ := h
  exact ⟨b', h1, h2, h3, (Fr.of_ext hx).trans h4, h5.imp id (Nat.le_trans hx.size)⟩
theorem tabPost_same {p b m : Nat} {T : List ShD} {w w' : World} {n e : Int} (hT : Tab w' p b m T) (hw : WF T) (hx : Ext w w') : TabPost p b m w (T, n, e) (.returned (.tuple #[.int .i64 n, .int .i64 e])) w' := ⟨b, rfl, hT, hw, Fr.of_ext hx, .inl rfl⟩
theorem asked_in {T : List ShD} {n : Int} {k : V3} {a : Int} (h : askedE T n k a = 0) : ∃ (i : Nat) (x : ShD), n = (i : Int) ∧ T[i]? = some x := by
  unfold askedE at h
  cases hi : inT T n with
  | false => rw [hi] at h; simp at h
  | true => exact inT_get hi
theorem find_pl {T : List ShD} (hw : WF T) {k : V3} : ∀ (i : Nat) (x : ShD) (pl at_ : Int), T[i]? = some x → findL T k i = some (pl, at_) → 0 ≤ pl ∧ pl < x.len := by
  intro i
  induction i using Nat.strongRecOn with
  | _ i ih =>
    intro x pl at_ hx hf
    by_cases hl : 0 < x.len
    · by_cases hk : x.key = k
      · rw [find_here hx hl hk] at hf
        cases hf
        omega
      · have hpos : 0 < i := by
          rcases Nat.eq_zero_or_pos i with rfl | h
          · rw [hw.head] at hx; cases hx; simp [root] at hl
          · exact h
        obtain ⟨u, y, h1, h2, h3, h4⟩ := hw.up i x hx hpos
        rw [find_up hx hl hk h1 h2] at hf
        have := ih u h2 y pl at_ h3 hf
        omega
    · rw [find_zero hx hl] at hf; cases hf
theorem before_lt {T : List ShD} (hw : WF T) {n : Int} (hn : 0 ≤ n) : ∀ (i : Nat), i < T.length → beforeL T n i < T.length := by
  intro i
  induction i using Nat.strongRecOn with
  | _ i ih =>
    intro hi
    have hx : T[i]? = some T[i] := List.getElem?_eq_getElem hi
    by_cases hl : n < T[i].len
    · have hpos : 0 < i := by
        rcases Nat.eq_zero_or_pos i with rfl | h
        · rw [hw.head] at hx; injection hx with hx; rw [← hx] at hl; simp [root] at hl; omega
        · exact h
      obtain ⟨u, y, h1, h2, h3, h4⟩ := hw.up i _ hx hpos
      rw [before_up hx hl h1 h2]
      exact ih u h2 (by omega)
    · rw [before_here hx hl]; exact hi
end Go.Proofs.Ytmiecljgcbfklaa
