/- Targets of package code: the closure that notes a target. -/
import Derived.Test.YtagdompikjhnoaaRight
import Derived.Lib.OwnBridge
namespace Go.Proofs.Ytagdompikjhnoaa
open Go.RowKit

/-- blocks that hold neither ints nor int slices are as they were -/
def Keep (w w' : World) : Prop := ∀ b t cs, Blk w b t cs → t ≠ 39 → t ≠ 3 → Blk w' b t cs
theorem Keep.refl (w : World) : Keep w w := fun _ _ _ h _ _ => h
theorem Keep.trans {a b c : World} (h : Keep a b) (k : Keep b c) : Keep a c := fun x t cs hb h1 h2 => k x t cs (h x t cs hb h1 h2) h1 h2
theorem Keep.of_ext {a b : World} (h : Ext a b) : Keep a b := fun _ _ _ hb _ _ => hb.ext h

/-- what Targets holds on the way: the code's box b1, the variable 'out' in block b3, and the numbers zs collected so far -/
structure TS (w0 w : World) (b1 b3 : Nat) (row : Array Value) (zs : List Int) : Prop where
  ext : Ext w0 w
  box : Blk w b1 31 row
  lo1 : w0.heap.size ≤ b1
  lo3 : w0.heap.size ≤ b3
  own : ∃ sv, Blk w b3 39 #[sv] ∧ w.ownsRow w0.heap.size 3 1 sv zs.length (zs.map (.int .i64))

theorem TS.ext' {w0 w w' : World} {b1 b3 : Nat} {row : Array Value} {zs : List Int} (h : TS w0 w b1 b3 row zs) (hb : Ext w w') : TS w0 w' b1 b3 row zs := by
  obtain ⟨sv, h1, h2⟩ := h.own
  refine ⟨h.ext.trans hb, h.box.ext hb, h.lo1, h.lo3, sv, h1.ext hb, h2.1, ?_⟩
  rcases h2.2 with h3 | ⟨g, cap, cur, e, hg, hh, r⟩
  · exact .inl h3
  · exact .inr ⟨g, cap, cur, e, hg, (Blk.ext (t := 3) hh hb), r⟩

theorem intInfo : (Try.prog.info? 3).map (fun i => (i.zero, i.size, i.bytes)) = some (some (.int .i64 0), 1, 8) := by kernel_rfl

theorem blk_ne {w : World} {b p : Nat} {t u : TypeId} {cs ds : Array Value} (h : Blk w b t cs) (k : Blk w p u ds) (hne : t ≠ u) : b ≠ p := by
  rintro rfl
  unfold Blk at h k
  rw [h] at k
  injection k with k
  injection k with _ k
  exact hne k
section
variable {w w' : World} {base n : Nat} {v : Value} {xs : List Value}
theorem own_ne {b : Nat} {t : TypeId} {cs : Array Value} (hown : w.ownsRow base 3 1 v n xs) (hb : Blk w b t cs) (ht : t ≠ 3) : some b ≠ v.ownBlock := by
  rcases hown.2 with ⟨rfl, -⟩ | ⟨g, cap, cur, rfl, -, hh, -⟩
  · simp [Value.ownBlock]
  · intro h
    have e : b = g := by simpa [Value.ownBlock] using h
    subst e
    exact (blk_ne hb (show Blk w b 3 cur from hh) ht) rfl
theorem keep_grown (hown : w.ownsRow base 3 1 v n xs) (hg : w.grownBy w' v.ownBlock) {b : Nat} {t : TypeId} {cs : Array Value} (hb : Blk w b t cs) (ht : t ≠ 3) : Blk w' b t cs :=
  (hg.block b hb.lt (own_ne hown hb ht)).trans hb
theorem own_set {b : Nat} {cs : Array Value} (hown : w.ownsRow base 3 1 v n xs) (hb : Blk w b 39 cs) (i : Nat) (u : Value) : (w.setCell ⟨b, i, none⟩ u).ownsRow base 3 1 v n xs := by
  refine ⟨hown.1, ?_⟩
  rcases hown.2 with h | ⟨g, cap, cur, e, hg, hh, r⟩
  · exact .inl h
  · have hne : g ≠ b := blk_ne (show Blk w g 3 cur from hh) hb (by decide)
    exact .inr ⟨g, cap, cur, e, hg, (Below.heap_setCell w ⟨b, i, none⟩ u g hne).trans hh, r⟩
theorem own_form (hown : w.ownsRow base 3 1 v n xs) : ∃ A k, v = .slice A n k := by
  rcases hown.2 with ⟨rfl, rfl⟩ | ⟨g, cap, cur, rfl, -⟩
  · exact ⟨none, 0, rfl⟩
  · exact ⟨_, cap, rfl⟩
theorem own_base (hown : w.ownsRow base 3 1 v n xs) : ∀ k, v.ownBlock = some k → base ≤ k := by
  rcases hown.2 with ⟨rfl, -⟩ | ⟨g, cap, cur, rfl, hg, -⟩
  · simp [Value.ownBlock]
  · intro k h
    have e : g = k := by simpa [Value.ownBlock] using h
    omega
end
theorem Blk.set0 {w : World} {b : Nat} {t : TypeId} {x u : Value} (h : Blk w b t #[x]) : Blk (w.setCell ⟨b, 0, none⟩ u) b t #[u] := by
  unfold Blk at h ⊢
  simp [World.setCell, Array.getElem?_modify, h]
theorem Blk.far {w : World} {b p : Nat} {t : TypeId} {cs : Array Value} (h : Blk w b t cs) (hp : b ≠ p) (i : Nat) (u : Value) : Blk (w.setCell ⟨p, i, none⟩ u) b t cs := (Below.heap_setCell w ⟨p, i, none⟩ u b hp).trans h

def nt (c : CodeD) (zs : List Int) (at_ : Int) : List Int := if inB at_ 0 ((c.ins.length : Int) - 1) then zs ++ [at_] else zs
def NotePost (w0 w : World) (b1 b3 : Nat) (row : Array Value) (zs : List Int) (e : Ending) (w' : World) : Prop := e = .returned (.tuple #[]) ∧ TS w0 w' b1 b3 row zs ∧ Keep w w'

/-- the world behind 'out = append(out, at)' -/
theorem TS.push {w0 w1 w2 : World} {b1 b3 : Nat} {row : Array Value} {zs : List Int} {at_ : Int} {sv v' : Value} (hT : TS w0 w1 b1 b3 row zs) (hs : Blk w1 b3 39 #[sv]) (ho : w1.ownsRow w0.heap.size 3 1 sv zs.length (zs.map (.int .i64)))
    (ho2 : w2.ownsRow w0.heap.size 3 1 v' (zs.length + 1) (zs.map (.int .i64) ++ [.int .i64 at_])) (hg : (w1.alloc (.cells #[.int .i64 at_] 3)).grownBy w2 sv.ownBlock) :
    TS w0 (w2.setCell ⟨b3, 0, none⟩ v') b1 b3 row (zs ++ [at_]) ∧ Keep w1 (w2.setCell ⟨b3, 0, none⟩ v') ∧ Blk w2 b3 39 #[sv] := by
  have hoa := ho.alloc (.cells #[.int .i64 at_] 3)
  have hsa := hs.alloc (.cells #[.int .i64 at_] 3)
  have hs2 : Blk w2 b3 39 #[sv] := keep_grown hoa hg hsa (by decide)
  have hk : Keep w1 (w2.setCell ⟨b3, 0, none⟩ v') := fun b t cs hb h1 h2 => (keep_grown hoa hg (hb.alloc _) h2).far (blk_ne hb hs h1) 0 v'
  refine ⟨⟨?_, hk _ _ _ hT.box (by decide) (by decide), hT.lo1, hT.lo3, v', hs2.set0, ?_⟩, hk, hs2⟩
  · have h1 : Ext w0 (w1.alloc (.cells #[.int .i64 at_] 3)) := hT.ext.alloc _
    have h2 : Ext w0 w2 := Below.grown h1 hg h1.size (own_base ho)
    exact h2.setCell hT.lo3 v'
  · rw [List.map_append, List.length_append]
    exact own_set ho2 hs2 0 v'

set_option maxHeartbeats 4000000 in
set_option maxRecDepth 100000 in
theorem note_any (w0 w : World) (b1 b3 : Nat) (row : Array Value) (zs : List Int) (c : CodeD) (at_ : Int) (hz : zs.length ≤ 100000) (hT : TS w0 w b1 b3 row zs) (hc : IsCode w0 (.agg row) c) :
    Calls Try.prog 43 #[.int .i64 at_, .pointer (some ⟨b1, 0, none⟩), .pointer (some ⟨b3, 0, none⟩)] w (NotePost w0 w b1 b3 row (nt c zs at_)) := by
  obtain ⟨i0, hi, hz0, hz1, hz2⟩ := info_parts intInfo
  obtain ⟨A1, A2, A3, A4, n1, n2, n3, n4, c1, c2, c3, c4, hrow⟩ := hc.form
  injection hrow with hrow
  subst hrow
  have HT := Lib.hid hT
  have HI := Lib.hid hi
  have HZ0 := Lib.hid hz0
  have HZ1 := Lib.hid hz1
  have HZ2 := Lib.hid hz2
  have cB := hT.box.cells
  clear hT hi hz0 hz1 hz2
  go_enter Try.func43, Try.ntmps43
  go_wp2_with fail
  refine (part_106 _ c at_ _ (hc.mono HT.out.ext)).mono ?_
  rintro e w1 ⟨rfl, hb⟩
  have HK := Lib.hid (Keep.of_ext hb)
  replace HT := Lib.hid (HT.out.ext' hb)
  clear hb cB
  cases hd : inB at_ 0 ((c.ins.length : Int) - 1) with
  | false =>
    have Hnt := Lib.hid (show nt c zs at_ = zs by unfold nt; rw [hd]; rfl)
    clear hd
    go_wp2_with fail
    go_end0
    refine ⟨rfl, ?_, HK.out⟩
    rw [Hnt.out]
    exact HT.out
  | true =>
    have Hnt := Lib.hid (show nt c zs at_ = zs ++ [at_] by unfold nt; rw [hd]; rfl)
    clear hd
    obtain ⟨sv, s1, s2⟩ := HT.out.own
    have q3 := s1.cells
    have hlt3 := s1.lt
    have hne3 : b3 ≠ w1.heap.size := by omega
    have HO := Lib.hid s2
    have HB3 := Lib.hid s1
    clear s1 s2
    go_wp2_with (at_builtin; refine wpList_append_own _ rfl _ _ 39 rfl w0.heap.size 3 i0 (.int .i64 0) 1 8 Try.underlying39 HI.out HZ0.out HZ1.out HZ2.out rfl (by decide) sv zs.length (zs.map (.int .i64)) rfl (HO.out.alloc _) ⟨w1.heap.size, 0, none⟩ 1 1 [.int .i64 at_] rfl rfl ?c1 ?c2 ?c3 ?c4 ?c5 ?_)
    case c1 =>
      intro j u hu
      match j, hu with
      | 0, hu =>
        simp only [List.getElem?_cons_zero, Option.some.injEq] at hu
        subst hu
        exact (Blk.new w1 3 #[.int .i64 at_]).cells 0
      | k + 1, hu => simp at hu
    case c2 => intro u hu; rw [List.mem_singleton.1 hu]; rfl
    case c3 => unfold maxLen; omega
    case c4 => omega
    case c5 => exact (HT.out.ext.alloc _).size
    intro v' w2 ho2 hg _
    obtain ⟨A, k, rfl⟩ := own_form ho2
    obtain ⟨hT2, hk2, hs2⟩ := TS.push HT.out HB3.out HO.out ho2 hg
    have HT2 := Lib.hid hT2
    have HK2 := Lib.hid hk2
    have q4 := hs2.cells
    have q5 := hs2.free
    have hlt4 := hs2.lt
    clear hT2 hk2 hs2 ho2 hg q3 HO HB3
    go_wp2_with fail
    go_end0
    refine ⟨rfl, ?_, HK.out.trans HK2.out⟩
    rw [Hnt.out]
    exact HT2.out
end Go.Proofs.Ytagdompikjhnoaa
