/- The keys of a map, sorted: slices.Sorted(maps.Keys(m)) for integer keys, in the words of chunks. -/
import Derived.Test.YtancgbfkpoeffaaA11
import Derived.Test.YtancgbfkpoeffaaIter
namespace Go.Proofs.Ytancgbfkpoeffaa
open Go.RowKit Go.Maps Go.Shelf

def keysL {β : Type} (kv : List (Int × β)) : List Int := (kv.map (·.1)).mergeSort (fun x y => decide (x ≤ y))
theorem Try.sortsA (m : Nat) : AnyZI.SortsIn Try.prog Try.sortedA_ren Fence.wide m :=
  ⟨fun blk off cap ss W hH hblk hsz => callsIn_wide.2 (AnyM.slices_Sort_int Try.sortA blk off cap ss W hH hblk hsz),
   fun p cap W => callsIn_wide.2 (AnyM.slices_Sort_int_none Try.sortA p cap W)⟩
abbrev litI : Lit → Int := Go.intOf
def constR : Value → Option (DataW Unit × List MemPlace) := fun _ => some (.nil, [])
theorem owns_of_mp {β : Type} {ev : β → Value} {w : World} {m : Nat} {kv : List (Int × β)} (h : Mp w m ekI ev kv) (hk : ∀ k ∈ kv.map (·.1), in64 k) (hd : (kv.map (·.1)).Nodup) (hn : kv.length ≤ 1099511627776) : ∃ D : DataW Unit, w.ownsMap Try.prog 3 constR m kv.length D ∧ (intKeys D).Perm (kv.map (·.1)) ∧ Maps.size D = kv.length := by
  obtain ⟨es, clk, h1, h2, h3, h4⟩ := h
  have hlen : es.size = kv.length := by simpa using congrArg List.length h2
  have hrd : ∀ x ∈ es.toList, ∃ a, a ∈ kv.map (·.1) ∧ x.key = ekI a ∧ WideElems.rd Try.prog 3 constR x = some (Lit.int .i64 a, DataW.nil) := by
    intro x hx
    have h5 : (x.key, x.val) ∈ es.toList.map (fun e => (e.key, e.val)) := List.mem_map.2 ⟨x, hx, rfl⟩
    rw [h2] at h5
    obtain ⟨p, hp, e⟩ := List.mem_map.1 h5
    have e1 : ekI p.1 = x.key := congrArg Prod.fst e
    have hp1 : p.1 ∈ kv.map (·.1) := List.mem_map.2 ⟨p, hp, rfl⟩
    refine ⟨p.1, hp1, e1.symm, ?_⟩
    have hw := hk p.1 hp1
    unfold WideElems.rd
    rw [← e1]
    unfold ekI
    rw [keyOf_int_mk Try.underlying3 (by have e1 : IntKind.i64.min = -9223372036854775808 := rfl; have e2 : IntKind.i64.max = 9223372036854775807 := rfl; unfold Lit.wf; simp only [e1, e2, Bool.and_eq_true, decide_eq_true_eq]; exact hw)]
    rfl
  have hkeys : es.toList.map (·.key) = kv.map (fun p => ekI p.1) := by
    have h5 := congrArg (List.map Prod.fst) h2
    simpa [List.map_map, Function.comp_def] using h5
  have hrg : (es.toList.map (WideElems.rg Try.prog 3 constR)).map (fun p => litI p.1) = kv.map (·.1) := by
    have h6 : es.toList.map (fun x => litI (WideElems.rg Try.prog 3 constR x).1) = (es.toList.map (·.key)).map (fun v => match v with | .int _ a => a | _ => 0) := by
      rw [List.map_map]
      apply List.map_congr_left
      intro x hx
      obtain ⟨a, -, h7, h8⟩ := hrd x hx
      simp only [WideElems.rg, h8, Option.getD_some, Function.comp, h7]
      rfl
    simp only [List.map_map, Function.comp_def] at h6 ⊢
    rw [h6]
    have h9 := congrArg (List.map (fun v : Value => match v with | .int _ a => a | _ => (0 : Int))) hkeys
    simp only [List.map_map, Function.comp_def, ekI] at h9
    exact h9
  refine ⟨_, ⟨es, clk, h1, ⟨by unfold maxLen; omega, ⟨h4, ?_, ?_⟩, fun x hx => ?_⟩, by omega, rfl⟩, ?_, ?_⟩
  · rw [List.nodup_iff_pairwise_ne, List.pairwise_map]
    exact h3.imp fun h => by omega
  · rw [hkeys]
    have : kv.map (fun p => ekI p.1) = (kv.map (·.1)).map ekI := by rw [List.map_map]; rfl
    rw [this, List.nodup_iff_pairwise_ne, List.pairwise_map]
    exact (List.nodup_iff_pairwise_ne.1 hd).imp fun h e => h (by unfold ekI at e; injection e)
  · obtain ⟨a, -, -, h8⟩ := hrd x hx
    exact ⟨_, h8⟩
  · rw [← hrg]
    exact ((WideShapes.sorted_perm _).map _)
  · rw [Maps.size_eq, (WideShapes.sorted_perm _).length_eq]
    simp [hlen]
theorem perm_sort {a b : List Int} (h : a.Perm b) : a.mergeSort (fun x y => decide (x ≤ y)) = b.mergeSort (fun x y => decide (x ≤ y)) := by
  have tr : ∀ x y z : Int, decide (x ≤ y) = true → decide (y ≤ z) = true → decide (x ≤ z) = true := by simp; omega
  have tot : ∀ x y : Int, (decide (x ≤ y) || decide (y ≤ x)) = true := by simp; omega
  have s1 := List.pairwise_mergeSort tr tot a
  have s2 := List.pairwise_mergeSort tr tot b
  have p : (a.mergeSort (fun x y => decide (x ≤ y))).Perm (b.mergeSort (fun x y => decide (x ≤ y))) := (List.mergeSort_perm a _).trans (h.trans (List.mergeSort_perm b _).symm)
  exact p.eq_of_pairwise (by intro x y _ _ h1 h2; simp at h1 h2; omega) s1 s2
def maps_Keys_O {β : Type} (_ : Nat) (_ : List (Int × β)) : Option Unit := some ()
theorem maps_Keys_ok {N : Nat} {a0 : List (Int × Bool)} {r : Unit} (_ : maps_Keys_O N a0 = some r) {M1 : Nat} : Okc Try.prog 27 [.map (some M1)] [] (fun (u : Value) (post : List Chunk) => ∃ B900, u = .func (.func 39) #[] #[.pointer (some ⟨B900, 0, none⟩)] ∧ post = [boxC B900 54 [.map (some M1)]]) := fun Z w hw => by
  have h := callsIn_wide.1 (AnyZI.keys_in Try.keysA Fence.wide 5 trivial rfl (some M1) w)
  refine h.mono ?_
  rintro e w' ⟨rfl, rfl⟩
  refine ⟨_, _, rfl, ?_, w.heap.size, rfl, rfl⟩
  exact SepL.new hw (Agr.of_ext ((Ext.refl w).alloc _)) fun _ S _ => ⟨(· = w.heap.size), fun q hq => by subst hq; simp, rfl, Blk.new w _ _⟩
theorem maps_Keys_free {M1 : Nat} : ∀ v post, ((fun (u : Value) (post : List Chunk) => ∃ B900, u = .func (.func 39) #[] #[.pointer (some ⟨B900, 0, none⟩)] ∧ post = [boxC B900 54 [.map (some M1)]])) v post → ∀ c ∈ post, Free c := by
  rintro _ _ ⟨_, rfl, rfl⟩; exact mem_cons free_box mem_nil
def slices_Sorted_O (_ : Nat) (kv : List (Int × Bool)) : Option (List Int) := req ((∀ k ∈ kv.map Prod.fst, in64 k) ∧ (kv.map Prod.fst).Nodup ∧ fitsL kv.length) (some (keysL kv))
theorem slices_Sorted_ok {N : Nat} {a0 : List (Int × Bool)} {r : List Int} (h : slices_Sorted_O N a0 = some r) {B1 M2 : Nat} : Okc Try.prog 26 [.func (.func 39) #[] #[.pointer (some ⟨B1, 0, none⟩)]] [rboxC B1 54 [.map (some M2)], romC ekI evB M2 a0] (fun (u : Value) (post : List Chunk) => ∃ A0 n0 c0, u = .slice A0 n0 c0 ∧ post = [ownC (rInt .i64) 3 (.slice A0 n0 c0) r]) := fun Z w hw => by
  obtain ⟨⟨hk, hd, hn⟩, h⟩ := req_elim h
  obtain rfl := Option.some.inj h
  obtain ⟨T, S, hs1, hbox⟩ := SepL.get hw (i := 0) (c := rboxC B1 54 [.map (some M2)]) rfl
  obtain ⟨T2, S2, hs2, hmp⟩ := SepL.get hw (i := 1) (c := romC ekI evB M2 a0) rfl
  obtain ⟨D, hown, hperm, hsize⟩ := owns_of_mp hmp hk hd hn
  have hcell : w.cell? ⟨B1, 0, none⟩ = some (.map (some M2)) := hbox.at rfl
  have hseq : SeqGives Fence.wide 2 Try.prog 39 #[.pointer (some ⟨B1, 0, none⟩)] encZ (fun ss => ss.Perm (intKeys D)) (Maps.size D) w :=
    AnyZI.keys_gives (ρ := Try.keysA_ren) { Try.keysA with } Fence.wide _ trivial rfl (by omega) B1 M2 _ D w hbox.lt hcell hown
  have cS := AnyZI.sorted_in Try.sortedA Fence.wide 5 trivial trivial trivial trivial rfl (by omega) (Try.sortsA _) (enters_of Try.func38 (by kernel_rfl) rfl) 39 #[.pointer (some ⟨B1, 0, none⟩)] trivial (enters_of Try.func39 (by kernel_rfl) rfl) _ _ (by rw [hsize]; unfold maxLen; omega) (by rw [hsize]; omega) _ hseq
  refine (callsIn_wide.1 cS).mono ?_
  rintro e w' ⟨v, ss, rfl, hS, hrow, hnil, hb⟩
  have hkeys : ss.mergeSort (fun x y => decide (x ≤ y)) = keysL a0 := perm_sort (hS.trans hperm)
  rw [hkeys] at hrow
  have hlen : ss.length = (keysL a0).length := by rw [← hkeys, List.length_mergeSort]
  rw [hlen] at hrow
  have hsh : ∃ A c, v = .slice A (keysL a0).length c := by
    rcases hrow.2 with ⟨rfl, h0⟩ | ⟨g, cap, cur, rfl, -⟩
    · exact ⟨none, 0, by rw [h0]⟩
    · exact ⟨_, cap, rfl⟩
  obtain ⟨A, c, rfl⟩ := hsh
  refine ⟨_, _, rfl, ?_, A, _, c, rfl, rfl⟩
  have hz : SepL Z w := SepL.dropL (A := [rboxC B1 54 [.map (some M2)], romC ekI evB M2 a0]) hw
  refine SepL.new hz (Agr.of_ext hb) fun _ S _ => ⟨fun q => (Value.slice A (keysL a0).length c).ownBlock = some q, fun q hq => World.ownsRow.lt hrow q hq, (keysL a0).map (fun x => [.int .i64 x]), ?_, ?_, fun _ h => h⟩
  · induction keysL a0 with
    | nil => exact .nil
    | cons x l ih => exact .cons rfl ih
  · have e : ((keysL a0).map (fun x => [Value.int .i64 x])).flatten = (keysL a0).map encZ := by
      induction keysL a0 with
      | nil => rfl
      | cons x l ih => simp only [List.map_cons, List.flatten_cons, ih]; rfl
    rw [e]
    refine ⟨hrow.1, ?_⟩
    rcases hrow.2 with h1 | ⟨g, cap, cur, e1, hg, r⟩
    · exact .inl h1
    · exact .inr ⟨g, cap, cur, e1, Nat.zero_le _, r⟩
theorem slices_Sorted_free {r : List Int} : ∀ v post, ((fun (u : Value) (post : List Chunk) => ∃ A0 n0 c0, u = .slice A0 n0 c0 ∧ post = [ownC (rInt .i64) 3 (.slice A0 n0 c0) r])) v post → ∀ c ∈ post, Free c := by
  rintro _ _ ⟨_, _, _, rfl, rfl⟩; exact mem_cons free_own mem_nil
end Go.Proofs.Ytancgbfkpoeffaa
