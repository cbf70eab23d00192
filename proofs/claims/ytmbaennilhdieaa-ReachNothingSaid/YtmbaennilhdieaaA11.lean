/- The walk over chunks: several chunks as one. Over any program. -/
import Derived.Test.YtmbaennilhdieaaA10
namespace Go.Proofs.Ytmbaennilhdieaa
open Go.RowKit

/-- for some x, the chunks of Q x -/
def packC {ι : Type} (Q : ι → List Chunk) : Chunk where
  ok T S w := ∃ (x : ι) (T' : Nat → Nat → Prop), (∀ (i : Nat) (c : Chunk), (Q x)[i]? = some c → c.ok (T' i) S w) ∧ (∀ (i j q : Nat), i ≠ j → T' i q → T' j q → False) ∧ ∀ (i q : Nat), T' i q → T q
  loc := fun h ⟨x, T', h1, h2, h3⟩ => ⟨x, T', fun i c hi => c.loc (h.mono fun q hq => hq.imp (h3 i q) id) (h1 i c hi), h2, h3⟩
  mono := fun h ⟨x, T', h1, h2, h3⟩ => ⟨x, T', fun i c hi => c.mono h (h1 i c hi), h2, h3⟩
  ro := false
  dup := fun h => Bool.noConfusion h
theorem free_box {b : Nat} {t : TypeId} {cs : List Value} : Free (boxC b t cs) := fun _ _ _ _ h => h
theorem Okc.mono {P : Program} {f : FuncId} {args : List Value} {L : List Chunk} {R R' : Value → List Chunk → Prop} (h : Okc P f args L R) (hr : ∀ v post, R v post → R' v post) : Okc P f args L R' := fun Z w hw => (h Z w hw).mono fun e w' ⟨v, post, h1, h2, h3⟩ => ⟨v, post, h1, h2, hr _ _ h3⟩
theorem cut_facts {α : Type} {R : Rep α} {L Z : List Chunk} {w : World} {A : Option Addr} {n c : Nat} {xs : List α} (hw : Sp Z L w) {i : Nat} (hi : L[i]? = some (slC R (.slice A n c) xs)) {l h : Nat} (h1 : l ≤ h) (h2 : h ≤ xs.length) : Sp Z (slC R (.slice (cutA A c l R.sz) (h - l) (c - l)) ((xs.drop l).take (h - l)) :: L) w := by
  obtain ⟨T, S, hT⟩ := hw
  have hs1 : SlR R S w (.slice A n c) xs := hT.ok (fr_get hi)
  obtain ⟨T', h'⟩ := SepL.facts [slC R (.slice (cutA A c l R.sz) (h - l) (c - l)) ((xs.drop l).take (h - l))] hT (fun c hc => by simp only [List.mem_singleton] at hc; subst hc; exact hs1.cut l h h1 h2)
  exact ⟨T', S, h'⟩
theorem G_cut {α : Type} {R : Rep α} {X : Cx} {ops : Array Oper} {K : K3} {s : Env} {L : List Chunk} {ol : List Oper} {A : Option Addr} {n c : Nat} {xs : List α} (i : Nat) (hi : L[i]? = some (slC R (.slice A n c) xs)) {l h : Nat} (h1 : l ≤ h) (h2 : h ≤ xs.length) (k : ∀ A' n' c', A' = cutA A c l R.sz ∧ n' = h - l ∧ c' = c - l → RunG X ops ol K s (slC R (.slice A' n' c') ((xs.drop l).take (h - l)) :: L)) : RunG X ops ol K s L := fun H Ds a w ha hd hw => k _ _ _ ⟨rfl, rfl, rfl⟩ H Ds a w ha hd (cut_facts hw hi h1 h2)
theorem T3_cut {α : Type} {R : Rep α} {X : Cx} {ops : Array Oper} {K : K3} {M : List Chunk} {s : Env} {L : List Chunk} {fuel : Nat} {listed : Array Bool} {A : Option Addr} {n c : Nat} {xs : List α} (i : Nat) (hi : L[i]? = some (slC R (.slice A n c) xs)) {l h : Nat} (h1 : l ≤ h) (h2 : h ≤ xs.length) (k : ∀ A' n' c', A' = cutA A c l R.sz ∧ n' = h - l ∧ c' = c - l → TkG X ops K (slC R (.slice A' n' c') ((xs.drop l).take (h - l)) :: M) fuel listed s (slC R (.slice A' n' c') ((xs.drop l).take (h - l)) :: L)) : TkG X ops K M fuel listed s L := fun hc H Ds a w ha hd hw => by
  have h3 := k _ _ _ ⟨rfl, rfl, rfl⟩ (cv_cons _ hc) H Ds a w ha hd (cut_facts hw hi h1 h2)
  exact wpAC_weak (fun w ⟨Z, hZ⟩ => ⟨Z, cv_tl _ _ hZ⟩) _ _ _ _ h3
section
variable {P : Program} {s : Env} {L : List Chunk} {d : Option Nat} {ty : TypeId} {pos : String} {af : Array Edge} {gd : Option (Nat × Bool)}
theorem rd_cut {α : Type} {R : Rep α} {t e sz : Nat} {x : Operand} {lo : Option Operand} {y : Operand} {A A' : Option Addr} {n c n' c' : Nat} {xs : List α} {l h : Nat} (i : Nat) (hL : L[i]? = some (slC R (.slice A n c) xs)) (he : A' = cutA A c l R.sz ∧ n' = h - l ∧ c' = c - l) (hx : evE s x = some (.slice A n c)) (hu : P.underlying t = some (.slice e)) (hs : sizeB P e sz = true) (hsz : R.sz = sz)
    (hl : match lo with | none => l = 0 | some o => evE s o = some (.int .i64 (l : Int))) (hh : evE s y = some (.int .i64 (h : Int))) (h1 : l ≤ h) (h2 : h ≤ xs.length) : Rd P s L ⟨d, .slice t x lo (some y) none, ty, pos, af, gd⟩ (.slice A' n' c') := fun Z w hw => by
  obtain ⟨rfl, rfl, rfl⟩ := he
  subst hsz
  obtain ⟨T, S, A2, c2, e2, g1, -⟩ := hw.get (fr_get hL)
  injection e2 with q1 q2 q3
  subst q1 q2 q3
  exact ev_slice (hi := some y) hx hu hs hl hh h1 (by omega)
theorem rd_cutN {α : Type} {R : Rep α} {t e sz : Nat} {x : Operand} {lo : Option Operand} {A A' : Option Addr} {n c n' c' : Nat} {xs : List α} {l : Nat} (i : Nat) (hL : L[i]? = some (slC R (.slice A n c) xs)) (he : A' = cutA A c l R.sz ∧ n' = xs.length - l ∧ c' = c - l) (hx : evE s x = some (.slice A n c)) (hu : P.underlying t = some (.slice e)) (hs : sizeB P e sz = true) (hsz : R.sz = sz)
    (hl : match lo with | none => l = 0 | some o => evE s o = some (.int .i64 (l : Int))) (h1 : l ≤ xs.length) : Rd P s L ⟨d, .slice t x lo none none, ty, pos, af, gd⟩ (.slice A' n' c') := fun Z w hw => by
  obtain ⟨rfl, rfl, rfl⟩ := he
  subst hsz
  obtain ⟨T, S, A2, c2, e2, g1, -⟩ := hw.get (fr_get hL)
  injection e2 with q1 q2 q3
  subst q1 q2 q3
  exact ev_slice (hi := none) hx hu hs hl rfl h1 (by omega)
end
theorem unpack {ι : Type} {Q : ι → List Chunk} {L Z : List Chunk} {w : World} (h : Sp Z (packC Q :: L) w) : ∃ x, Sp Z (Q x ++ L) w := by
  obtain ⟨T, S, h⟩ := h
  obtain ⟨x, T', h1, h2, h3⟩ := h.ok (i := 0) (c := packC Q) rfl
  refine ⟨x, fun i => if i < (Q x).length then T' i else T (i - (Q x).length + 1), S, ?_, ?_, ?_, ?_, h.lts⟩
  · intro i c hi
    rw [List.append_assoc] at hi
    by_cases hlt : i < (Q x).length
    · rw [List.getElem?_append_left hlt] at hi
      simp only [hlt, if_true]
      exact h1 i c hi
    · rw [List.getElem?_append_right (by omega)] at hi
      simp only [hlt, if_false]
      exact h.ok (i := i - (Q x).length + 1) (by simpa using hi)
  · intro i j q hij h4 h5
    by_cases e1 : i < (Q x).length <;> by_cases e2 : j < (Q x).length
    · simp only [e1, e2, if_true] at h4 h5; exact h2 i j q hij h4 h5
    · simp only [e1, e2, if_true, if_false] at h4 h5; exact h.apart (i := 0) (by omega) (h3 i q h4) h5
    · simp only [e1, e2, if_true, if_false] at h4 h5; exact h.apart (i := 0) (by omega) (h3 j q h5) h4
    · simp only [e1, e2, if_false] at h4 h5; exact h.apart (by omega) h4 h5
  · intro i q h4 h5
    by_cases e1 : i < (Q x).length
    · simp only [e1, if_true] at h4; exact h.ro (h3 i q h4) h5
    · simp only [e1, if_false] at h4; exact h.ro h4 h5
  · intro i q h4
    by_cases e1 : i < (Q x).length
    · simp only [e1, if_true] at h4; exact h.lt (h3 i q h4)
    · simp only [e1, if_false] at h4; exact h.lt h4
theorem cv_pack {ι : Type} {Q : ι → List Chunk} {L : List Chunk} (x : ι) : Cv (Q x ++ L) (packC Q :: L) := fun Z w h => by
  obtain ⟨T, S, h⟩ := h
  refine ⟨fun i => match i with | 0 => fun q => ∃ j, j < (Q x).length ∧ T j q | i + 1 => T (i + (Q x).length), S, ?_, ?_, ?_, ?_, h.lts⟩
  · intro i c hi
    cases i with
    | zero =>
      simp only [List.cons_append, List.getElem?_cons_zero, Option.some.injEq] at hi
      subst hi
      refine ⟨x, fun j q => j < (Q x).length ∧ T j q, fun j c hj => ?_, fun i j q hij h1 h2 => h.apart hij h1.2 h2.2, fun j q hq => ⟨j, hq⟩⟩
      have hlt := (List.getElem?_eq_some_iff.1 hj).1
      have e : (fun q => j < (Q x).length ∧ T j q) = T j := by funext q; simp [hlt]
      show c.ok (fun q => j < (Q x).length ∧ T j q) S w
      rw [e]
      exact h.ok (by rw [List.append_assoc, List.getElem?_append_left hlt]; exact hj)
    | succ i =>
      simp only [List.cons_append, List.getElem?_cons_succ] at hi
      exact h.ok (by rw [List.append_assoc, List.getElem?_append_right (by omega), Nat.add_sub_cancel]; exact hi)
  · intro i j q hij h1 h2
    cases i with
    | zero => cases j with
      | zero => exact hij rfl
      | succ j => obtain ⟨k, hk, h3⟩ := h1; exact h.apart (by omega) h3 h2
    | succ i => cases j with
      | zero => obtain ⟨k, hk, h3⟩ := h2; exact h.apart (by omega) h3 h1
      | succ j => exact h.apart (by omega) h1 h2
  · intro i q h1 h2
    cases i with
    | zero => obtain ⟨k, hk, h3⟩ := h1; exact h.ro h3 h2
    | succ i => exact h.ro h1 h2
  · intro i q h1
    cases i with
    | zero => obtain ⟨k, hk, h3⟩ := h1; exact h.lt h3
    | succ i => exact h.lt h1
theorem cv_pack1 {ι : Type} {Q : ι → List Chunk} {L : List Chunk} (x : ι) (h : L = Q x) : Cv L [packC Q] := fun Z w hw => by
  subst h
  have := cv_pack (Q := Q) (L := []) x Z w (by simpa using hw)
  exact this
theorem G_unpack {ι : Type} {Q : ι → List Chunk} {X : Cx} {c : Code} {K : K3} {s : Env} (h : ∀ x, Wq X c K s (Q x)) : Wq X c K s [packC Q] := fun H Ds a w ha hd hw => by
  obtain ⟨x, hx⟩ := unpack hw
  exact h x H Ds a w ha hd (by simpa using hx)
end Go.Proofs.Ytmbaennilhdieaa
