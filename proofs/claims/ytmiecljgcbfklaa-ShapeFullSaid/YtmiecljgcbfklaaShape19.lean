/- Shapes: the keys and attributes of a shape, and a long chain of shapes, plain. -/
import Derived.Test.YtmiecljgcbfklaaShape17
namespace Go.Proofs.Ytmiecljgcbfklaa
open Go.RowKit

def ka (x : ShD) : V3 × Int := (x.key, x.attrs)
def KA (T : List ShD) (i : Nat) : List (V3 × Int) := (rowL T i).map ka
theorem row_snoc {T : List ShD} (hw : WF T) {i : Nat} {x : ShD} (hx : T[i]? = some x) (hi : 0 < i) : ∃ u : Nat, x.up = (u : Int) ∧ u < i ∧ rowL T i = rowL T u ++ [x] := by
  obtain ⟨u, y, h1, h2, h3, h4⟩ := hw.up i x hx hi
  exact ⟨u, h1, h2, row_up hx ((hw.len i x hx).2.2 hi) h1 h2⟩
/-- one more -/
theorem KA_step {T : List ShD} (hw : WF T) {j : Nat} {x : ShD} {a : Nat} (hx : T[j]? = some x) (hj : 0 < j) (hu : x.up = (a : Int)) : KA T j = KA T a ++ [ka x] := by
  obtain ⟨u, h1, h2, h3⟩ := row_snoc hw hx hj
  have e : u = a := by omega
  subst e
  unfold KA
  rw [h3]
  simp
theorem KA_pre {T U : List ShD} (hw : WF T) (h : T <+: U) {i : Nat} (hi : i < T.length) : KA U i = KA T i := by unfold KA; rw [row_pre hw h i hi]
theorem foll_KA {T : List ShD} (hw : WF T) : ∀ (l : List ShD) (a : Nat), KA T (foll T a l).1 ++ (foll T a l).2.map ka = KA T a ++ l.map ka
  | [], a => rfl
  | x :: r, a => by
    cases hl : lk (prs T) ((a : Int), x.key, x.attrs) with
    | none => rw [foll_none hl]
    | some j =>
      rw [foll_some hl, foll_KA hw r j]
      obtain ⟨y, h1, h2, h3⟩ := lk_prs hl
      injection h3 with h4 h5
      injection h5 with h5 h6
      rw [KA_step hw h1 h2 h4]
      simp [ka, h5, h6]
theorem grow_KA : ∀ (l : List ShD) (T : List ShD) (a : Nat), WF T → a < T.length → T.length + l.length ≤ 1073741824 → KA (grow T a l).1 (grow T a l).2 = KA T a ++ l.map ka
  | [], T, a, _, _, _ => by simp [grow]
  | x :: r, T, a, hw, ha, hs => by
    simp only [List.length_cons] at hs
    have hw1 := hw.snoc a x.key x.attrs ha (by omega)
    show KA (grow (T ++ [⟨(a : Int), x.key, x.attrs, lenAt T a + 1⟩]) T.length r).1 (grow (T ++ [⟨(a : Int), x.key, x.attrs, lenAt T a + 1⟩]) T.length r).2 = _
    rw [grow_KA r _ T.length hw1 (by simp) (by simp; omega)]
    have h1 : (T ++ [(⟨(a : Int), x.key, x.attrs, lenAt T a + 1⟩ : ShD)])[T.length]? = some ⟨(a : Int), x.key, x.attrs, lenAt T a + 1⟩ := by simp
    rw [KA_step hw1 h1 (by omega) rfl, KA_pre hw (List.prefix_append _ _) ha]
    simp [ka]
theorem lay_KA {T : List ShD} {a : Nat} {l : List ShD} (hw : WF T) (ha : a < T.length) (h : (layT T a l).2.2 = 0) : KA (layT T a l).1 (layT T a l).2.1 = KA T a ++ l.map ka := by
  obtain ⟨h1, h2⟩ := layT_ok h
  rw [h2]
  show KA (grow T (foll T a l).1 (foll T a l).2).1 (grow T (foll T a l).1 (foll T a l).2).2 = _
  rw [grow_KA _ T _ hw (foll_lt l T a ha) (by omega), foll_KA hw l a]
theorem lay_wf {T : List ShD} {a : Nat} {l : List ShD} (hw : WF T) (ha : a < T.length) : WF (layT T a l).1 := by
  unfold layT
  split
  · exact hw
  · exact grow_wf _ _ _ hw (foll_lt l T a ha) (by omega)
theorem lay_lt {T : List ShD} {a : Nat} {l : List ShD} (ha : a < T.length) : (layT T a l).2.1 < (layT T a l).1.length := by
  unfold layT
  split
  · exact Nat.lt_of_le_of_lt (Nat.zero_le _) ha
  · exact grow_lt _ _ _ (foll_lt l T a ha)
theorem row_before {T : List ShD} (hw : WF T) {n : Nat} : ∀ i, i < T.length → rowL T (beforeL T (n : Int) i) = (rowL T i).take n := by
  intro i
  induction i using Nat.strongRecOn with
  | _ i ih =>
    intro hi
    have hx : T[i]? = some T[i] := List.getElem?_eq_getElem hi
    have hl := row_len hw i _ hx
    by_cases h : (n : Int) < T[i].len
    · have hpos : 0 < i := by
        rcases Nat.eq_zero_or_pos i with rfl | h'
        · rw [hw.head] at hx; injection hx with hx; rw [← hx] at h; simp [root] at h; omega
        · exact h'
      obtain ⟨u, y, h1, h2, h3, h4⟩ := hw.up i _ hx hpos
      rw [before_up hx h h1 h2, ih u h2 (by omega), row_up hx (by omega) h1 h2]
      have hlu := row_len hw u y h3
      rw [List.take_append_of_le_length (by omega)]
    · rw [before_here hx h, List.take_of_length_le (by omega)]
/-- a key that is nowhere in the row is not found -/
theorem find_none_row {T : List ShD} (hw : WF T) {k : V3} : ∀ i, i < T.length → (∀ q ∈ KA T i, q.1 ≠ k) → findL T k i = none := by
  intro i
  induction i using Nat.strongRecOn with
  | _ i ih =>
    intro hi hn
    have hx : T[i]? = some T[i] := List.getElem?_eq_getElem hi
    by_cases hl : 0 < T[i].len
    · have hpos : 0 < i := by
        rcases Nat.eq_zero_or_pos i with rfl | h'
        · rw [hw.head] at hx; injection hx with hx; rw [← hx] at hl; simp [root] at hl
        · exact h'
      obtain ⟨u, y, h1, h2, h3, h4⟩ := hw.up i _ hx hpos
      have e := KA_step hw hx hpos h1
      have hk : ¬ T[i].key = k := hn (ka T[i]) (by rw [e]; simp)
      rw [find_up hx hl hk h1 h2]
      exact ih u h2 (by omega) (fun q hq => hn q (by rw [e]; simp [hq]))
    · exact find_zero hx hl
/-- a key that stands in one place of the row is found there -/
theorem find_some_row {T : List ShD} (hw : WF T) {k : V3} {a : Int} : ∀ i, i < T.length → ∀ (p q : List (V3 × Int)), KA T i = p ++ (k, a) :: q → (∀ z ∈ q, z.1 ≠ k) → findL T k i = some ((p.length : Int), a) := by
  intro i
  induction i using Nat.strongRecOn with
  | _ i ih =>
    intro hi p q hk hn
    have hx : T[i]? = some T[i] := List.getElem?_eq_getElem hi
    have hlen : (rowL T i).length = p.length + q.length + 1 := by
      have := congrArg List.length hk
      simp [KA] at this
      omega
    have hrl := row_len hw i _ hx
    have hl : 0 < T[i].len := by omega
    have hpos : 0 < i := by
      rcases Nat.eq_zero_or_pos i with rfl | h'
      · rw [hw.head] at hx; injection hx with hx; rw [← hx] at hl; simp [root] at hl
      · exact h'
    obtain ⟨u, y, h1, h2, h3, h4⟩ := hw.up i _ hx hpos
    have e := KA_step hw hx hpos h1
    rcases List.eq_nil_or_concat q with rfl | ⟨q', z, rfl⟩
    · rw [e] at hk
      have hk' : KA T u ++ [ka T[i]] = p ++ [(k, a)] := hk
      have h5 := List.append_inj_right' hk' rfl
      injection h5 with h5
      have h6 : T[i].key = k := congrArg Prod.fst h5
      have h7 : T[i].attrs = a := congrArg Prod.snd h5
      rw [find_here hx hl h6, h7]
      simp at hlen
      congr 2
      omega
    · rw [e] at hk
      have hk' : KA T u ++ [ka T[i]] = (p ++ (k, a) :: q') ++ [z] := by rw [hk]; simp
      have h5 := List.append_inj_right' hk' rfl
      injection h5 with h5
      have h6 := List.append_inj_left' hk' rfl
      have hne : ¬ T[i].key = k := by
        have := hn z (by simp)
        rw [← h5] at this
        exact this
      rw [find_up hx hl hne h1 h2]
      exact ih u h2 (by omega) p q' h6 (fun w hw' => hn w (by simp [hw']))
/-- the chain of the law -/
def kN (j : Nat) : V3 := ⟨0, (j : Int), ⟨#[]⟩⟩
def chain (a : Int) (i : Nat) : List ShD := root :: (List.range i).map fun (j : Nat) => ⟨(j : Int), kN j, a, (j : Int) + 1⟩
theorem chain_len (a : Int) (i : Nat) : (chain a i).length = i + 1 := by simp [chain]
theorem chain_snoc (a : Int) (i : Nat) : chain a (i + 1) = chain a i ++ [⟨(i : Int), kN i, a, (i : Int) + 1⟩] := by simp [chain, List.range_succ]
theorem chain_get (a : Int) (i j : Nat) (h : j < i) : (chain a i)[j + 1]? = some ⟨(j : Int), kN j, a, (j : Int) + 1⟩ := by
  simp [chain, List.getElem?_range h]
theorem chain_lenAt (a : Int) (i j : Nat) (h : j ≤ i) : lenAt (chain a i) j = j := by
  cases j with
  | zero => rfl
  | succ j => simp [lenAt, chain_get a i j (by omega)]
theorem chain_wf (a : Int) : ∀ i, i ≤ 1024 → WF (chain a i)
  | 0, _ => WF.root
  | i + 1, h => by
    have h1 := (chain_wf a i (by omega)).snoc i (kN i) a (by rw [chain_len]; omega) (by rw [chain_len]; omega)
    rw [chain_lenAt a i i (Nat.le_refl _)] at h1
    rw [chain_snoc]
    exact h1
theorem chain_KA (a : Int) (n : Nat) (hn : n ≤ 1024) : ∀ i, i ≤ n → KA (chain a n) i = (List.range i).map fun j => (kN j, a)
  | 0, _ => by
    unfold KA
    rw [row_zero (x := root) rfl (by decide)]
    rfl
  | i + 1, h => by
    rw [KA_step (chain_wf a n hn) (chain_get a n i (by omega)) (by omega) rfl, chain_KA a n hn i (by omega), List.range_succ]
    simp [ka]
theorem kN_ne {i j : Nat} (h : i ≠ j) : kN i ≠ kN j := fun e => by
  injection e with _ e2
  omega
theorem kN_right (i : Nat) (h : i ≤ 1024) : keyB (kN i) = true := by
  unfold keyB kN
  simp
  omega
/-- the law's walk up the chain -/
theorem chain_next (a : Int) (hm : mayB a = true) (i : Nat) (h : i < 1024) : nextT (chain a i) (i : Int) (kN i) a = (chain a (i + 1), (i : Int) + 1, 0) := by
  have hlen := chain_len a i
  have hw := chain_wf a i (by omega)
  have ha : askedE (chain a i) (i : Int) (kN i) a = 0 := by
    unfold askedE
    rw [show inT (chain a i) (i : Int) = true by unfold inT; simp [hlen]; omega, kN_right i (by omega), hm]
    rfl
  have hf : findL (chain a i) (kN i) i = none := by
    refine find_none_row hw i (by omega) ?_
    rw [chain_KA a i (by omega) i (Nat.le_refl _)]
    intro q hq
    simp only [List.mem_map, List.mem_range] at hq
    obtain ⟨j, hj, rfl⟩ := hq
    exact kN_ne (by omega)
  unfold nextT
  rw [if_pos ha]
  simp only [Int.toNat_natCast, hf]
  rw [chain_lenAt a i i (Nat.le_refl _), if_neg (by omega)]
  have hl : lk (prs (chain a i)) ((i : Int), kN i, a) = none := lk_newest hw _ _ i hlen
  unfold layI layT
  rw [foll_none (x := ⟨0, kN i, a, 0⟩) hl, if_neg (by simp [hlen]; omega)]
  simp only [grow, chain_lenAt a i i (Nat.le_refl _), chain_len]
  rw [← chain_snoc]
  simp
theorem chain_long (a : Int) (hm : mayB a = true) : nextT (chain a 1024) 1024 (kN 1024) a = (chain a 1024, 0, 9) := by
  have hlen := chain_len a 1024
  have hw := chain_wf a 1024 (by omega)
  have ha : askedE (chain a 1024) 1024 (kN 1024) a = 0 := by
    unfold askedE
    rw [show inT (chain a 1024) 1024 = true by unfold inT; simp [hlen], kN_right 1024 (by omega), hm]
    rfl
  have hf : findL (chain a 1024) (kN 1024) 1024 = none := by
    refine find_none_row hw 1024 (by omega) ?_
    rw [chain_KA a 1024 (by omega) 1024 (Nat.le_refl _)]
    intro q hq
    simp only [List.mem_map, List.mem_range] at hq
    obtain ⟨j, hj, rfl⟩ := hq
    exact kN_ne (by omega)
  unfold nextT
  rw [if_pos ha, show (1024 : Int).toNat = 1024 from rfl, hf]
  dsimp only
  rw [chain_lenAt a 1024 1024 (Nat.le_refl _), if_pos (by decide)]
theorem foll_len : ∀ (l T : List ShD) (a : Nat), (foll T a l).2.length ≤ l.length
  | [], _, _ => Nat.le_refl _
  | x :: r, T, a => by
    cases hl : lk (prs T) ((a : Int), x.key, x.attrs) with
    | none => rw [foll_none hl]; exact Nat.le_refl _
    | some j => rw [foll_some hl]; exact Nat.le_succ_of_le (foll_len r T j)
theorem lay_fine {T : List ShD} {a : Nat} {l : List ShD} (hs : T.length + l.length ≤ 1073741824) : (layT T a l).2.2 = 0 ∧ (layT T a l).1.length ≤ T.length + l.length := by
  have h := foll_len l T a
  unfold layT
  rw [if_neg (by omega)]
  refine ⟨rfl, ?_⟩
  dsimp only
  rw [grow_len]
  omega
theorem asked_of {T : List ShD} {i : Nat} {k : V3} {a : Int} (hi : i < T.length) (hk : keyB k = true) (ha : mayB a = true) : askedE T (i : Int) k a = 0 := by
  unfold askedE
  rw [show inT T (i : Int) = true by unfold inT; simp; omega, hk, ha]
  rfl
theorem without_facts {T : List ShD} {i : Nat} {k : V3} {a : Int} {p q : List (V3 × Int)} (hw : WF T) (hi : i < T.length) (hK : KA T i = p ++ (k, a) :: q) (hn : ∀ z ∈ q, z.1 ≠ k) (hk : keyB k = true) (hs : T.length + q.length ≤ 1073741824) :
    ∃ (U : List ShD) (r : Nat), withoutT T (i : Int) k = (U, (r : Int), 0) ∧ T <+: U ∧ WF U ∧ r < U.length ∧ KA U r = p ++ q ∧ U.length ≤ T.length + q.length := by
  have ha := asked_of (a := 0) hi hk (by decide)
  have hf := find_some_row hw i hi p q hK hn
  have hb : beforeL T (p.length : Int) i < T.length := before_lt hw (by omega) i hi
  have hrow := row_before hw (n := p.length) i hi
  have e1 : ((rowL T i).drop (p.length + 1)).map ka = q := by
    rw [List.map_drop]
    show (KA T i).drop (p.length + 1) = q
    rw [hK]
    simp
  have e2 : KA T (beforeL T (p.length : Int) i) = p := by
    unfold KA
    rw [hrow, List.map_take]
    show (KA T i).take p.length = p
    rw [hK]
    simp
  have hlen : ((rowL T i).drop (p.length + 1)).length = q.length := by rw [← e1]; simp
  obtain ⟨h1, h2⟩ := lay_fine (T := T) (a := beforeL T (p.length : Int) i) (l := (rowL T i).drop (p.length + 1)) (by omega)
  refine ⟨(layT T (beforeL T (p.length : Int) i) ((rowL T i).drop (p.length + 1))).1, (layT T (beforeL T (p.length : Int) i) ((rowL T i).drop (p.length + 1))).2.1, ?_, lay_pre _ _, lay_wf hw hb, lay_lt hb, ?_, by omega⟩
  · unfold withoutT
    rw [if_pos ha]
    simp only [Int.toNat_natCast, hf]
    unfold layI
    rw [h1]
  · rw [lay_KA hw hb h1, e1, e2]
theorem change_facts {T : List ShD} {i : Nat} {k : V3} {a b : Int} {p q : List (V3 × Int)} (hw : WF T) (hi : i < T.length) (hK : KA T i = p ++ (k, a) :: q) (hn : ∀ z ∈ q, z.1 ≠ k) (hk : keyB k = true) (hm : mayB b = true) (hs : T.length + q.length + 1 ≤ 1073741824) :
    ∃ (U : List ShD) (r : Nat), changeT T (i : Int) k b = (U, (r : Int), 0) ∧ T <+: U ∧ WF U ∧ r < U.length ∧ KA U r = p ++ (k, b) :: q := by
  have ha := asked_of (a := b) hi hk hm
  have hf := find_some_row hw i hi p q hK hn
  have hb : beforeL T (p.length : Int) i < T.length := before_lt hw (by omega) i hi
  have hrow := row_before hw (n := p.length) i hi
  have e0 : ((rowL T i).drop p.length).map ka = (k, a) :: q := by
    rw [List.map_drop]
    show (KA T i).drop p.length = _
    rw [hK]
    simp
  have e1 : (headAttrs b ((rowL T i).drop p.length)).map ka = (k, b) :: q := by
    cases hd : (rowL T i).drop p.length with
    | nil => rw [hd] at e0; cases e0
    | cons x r =>
      rw [hd] at e0
      simp only [List.map_cons, List.cons.injEq] at e0
      obtain ⟨h1, h2⟩ := e0
      have h3 : x.key = k := congrArg Prod.fst h1
      simp [headAttrs, ka, h3]
      exact h2
  have e2 : KA T (beforeL T (p.length : Int) i) = p := by
    unfold KA
    rw [hrow, List.map_take]
    show (KA T i).take p.length = p
    rw [hK]
    simp
  have hlen : (headAttrs b ((rowL T i).drop p.length)).length = q.length + 1 := by
    have := congrArg List.length e1
    simpa using this
  obtain ⟨h1, h2⟩ := lay_fine (T := T) (a := beforeL T (p.length : Int) i) (l := headAttrs b ((rowL T i).drop p.length)) (by omega)
  refine ⟨(layT T (beforeL T (p.length : Int) i) (headAttrs b ((rowL T i).drop p.length))).1, (layT T (beforeL T (p.length : Int) i) (headAttrs b ((rowL T i).drop p.length))).2.1, ?_, lay_pre _ _, lay_wf hw hb, lay_lt hb, ?_⟩
  · unfold changeT
    rw [if_pos ha]
    simp only [Int.toNat_natCast, hf]
    unfold layI
    rw [h1]
  · rw [lay_KA hw hb h1, e1, e2]
theorem len_KA {T : List ShD} (hw : WF T) {i : Nat} {x : ShD} (hx : T[i]? = some x) : x.len = ((KA T i).length : Int) := by
  rw [← row_len hw i x hx]
  simp [KA]
/-- all that the law asks for behind its loop -/
theorem full_facts (a : Int) (c : Nat) (hm : mayB (a + 1) = true) (hc : c < 1024) : ∃ (T1 : List ShD) (less : Nat) (T2 : List ShD) (other : Nat) (x y z : ShD),
    withoutT (chain a 1024) 1024 (kN c) = (T1, (less : Int), 0) ∧ changeT T1 1024 (kN c) (a + 1) = (T2, (other : Int), 0) ∧ withoutT T2 1024 (kN c) = (T2, (less : Int), 0) ∧
    findT T2 (kN c) (less : Int) = none ∧ findT T2 (kN c) (other : Int) = some ((c : Int), a + 1) ∧ T2[less]? = some x ∧ x.len = 1023 ∧ T2[other]? = some y ∧ y.len = 1024 ∧ T2[1024]? = some z ∧ z.len = 1024 := by
  have hw := chain_wf a 1024 (by omega)
  have hlen := chain_len a 1024
  have hK := chain_KA a 1024 (by omega) 1024 (Nat.le_refl _)
  have hsp : (List.range 1024).map (fun j => (kN j, a)) = (List.range c).map (fun j => (kN j, a)) ++ (kN c, a) :: (List.range' (c + 1) (1023 - c)).map (fun j => (kN j, a)) := by
    rw [List.range_eq_range', List.range_eq_range', show 1024 = c + (1 + (1023 - c)) by omega, ← List.range'_append_1, List.map_append, ← List.range'_append_1]
    simp
  rw [hsp] at hK
  have hnq : ∀ z ∈ (List.range' (c + 1) (1023 - c)).map (fun j => (kN j, a)), z.1 ≠ kN c := by
    intro z hz
    simp only [List.mem_map, List.mem_range'_1] at hz
    obtain ⟨j, hj, rfl⟩ := hz
    exact kN_ne (by omega)
  have hnp : ∀ z ∈ (List.range c).map (fun j => (kN j, a)), z.1 ≠ kN c := by
    intro z hz
    simp only [List.mem_map, List.mem_range] at hz
    obtain ⟨j, hj, rfl⟩ := hz
    exact kN_ne (by omega)
  have hlq : ((List.range' (c + 1) (1023 - c)).map (fun j => (kN j, a))).length = 1023 - c := by simp
  have hlp : ((List.range c).map (fun j => (kN j, a))).length = c := by simp
  generalize (List.range' (c + 1) (1023 - c)).map (fun j => (kN j, a)) = q at hK hnq hlq
  generalize (List.range c).map (fun j => (kN j, a)) = p at hK hnp hlp
  obtain ⟨T1, less, w1, w2, w3, w4, w5, w6⟩ := without_facts hw (i := 1024) (by omega) hK hnq (kN_right c (by omega)) (by omega)
  have hK1 : KA T1 1024 = p ++ (kN c, a) :: q := by rw [KA_pre hw w2 (by omega)]; exact hK
  have hl1 := w2.length_le
  obtain ⟨T2, other, v1, v2, v3, v4, v5⟩ := change_facts (b := a + 1) w3 (i := 1024) (by omega) hK1 hnq (kN_right c (by omega)) hm (by omega)
  have hl2 := v2.length_le
  have hd : ∀ T : List ShD, doT T ⟨2, 1024, kN c, 0⟩ = withoutT T 1024 (kN c) := fun T => by
    unfold doT
    rw [if_neg (by dsimp only; decide), if_neg (by dsimp only; decide)]
  have h1024 : ((1024 : Nat) : Int) = 1024 := rfl
  rw [h1024] at w1 v1
  have hag' : withoutT T2 1024 (kN c) = (T2, (less : Int), 0) := by
    have hag := do_again (T := chain a 1024) (U := T2) ⟨2, 1024, kN c, 0⟩ hw (by rw [hd, w1]) (by rw [hd, w1]; exact v2) v3.size
    rw [hd, hd, w1] at hag
    exact hag
  have hKl : KA T2 less = p ++ q := by rw [KA_pre w3 v2 w4]; exact w5
  have hK2 : KA T2 1024 = p ++ (kN c, a) :: q := by rw [KA_pre w3 v2 (by omega)]; exact hK1
  have hx : T2[less]? = some (T2[less]'(by omega)) := List.getElem?_eq_getElem _
  have hy : T2[other]? = some T2[other] := List.getElem?_eq_getElem _
  have hz : T2[1024]? = some (T2[1024]'(by omega)) := List.getElem?_eq_getElem _
  refine ⟨T1, less, T2, other, _, _, _, w1, v1, hag', ?_, ?_, hx, ?_, hy, ?_, hz, ?_⟩
  · unfold findT
    split
    · simp only [Int.toNat_natCast]
      refine find_none_row v3 less (by omega) ?_
      rw [hKl]
      intro z hz
      rcases List.mem_append.1 hz with h | h
      · exact hnp z h
      · exact hnq z h
    · rfl
  · unfold findT
    rw [if_pos (inT_of hy)]
    simp only [Int.toNat_natCast]
    rw [find_some_row v3 other v4 p q v5 hnq, hlp]
  · rw [len_KA v3 hx, hKl]; simp; omega
  · rw [len_KA v3 hy, v5]; simp; omega
  · rw [len_KA v3 hz, hK2]; simp; omega
end Go.Proofs.Ytmiecljgcbfklaa
