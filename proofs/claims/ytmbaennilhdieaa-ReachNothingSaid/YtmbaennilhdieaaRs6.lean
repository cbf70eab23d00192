/- Plain: Alike holds where both sides are traversed alike and hold the same cells. -/
import Derived.Test.YtmbaennilhdieaaRs5
namespace Go.Proofs.Ytmbaennilhdieaa
open Go.RowKit

theorem addr_prog (N : Nat) (v : DValue) : reach_address_O N v = some (v.N, hasB v) := by
  unfold reach_address_O; rw [kind_has, bs]
theorem value_refl (N : Nat) (t : DTwins) (hf : t.to_ = t.from_) (hh : hasM t.b_ = hasM t.a_) (v : DValue) (h64 : in64 v.N) : reach_twins_value_O N t v v = some true := by
  unfold reach_twins_value_O
  simp only [addr_prog, bs, hf, has_prog N _ _ h64, hh]
  cases hb : hasB v
  · simp only [nf, ct, bs]
    rw [decide_eq_true (p := True) trivial]
  · simp only [nt, cf, bs]
    rw [decide_eq_true (p := True) trivial, beq_self_eq_true, beq_self_eq_true]
    simp only [nt, cf, bs]
    cases (lk t.from_ v.N).isSome
    · simp only [nf, ct, bs]
    · simp only [nt, cf, bs]
theorem eqf_refl (N : Nat) (ff : (DValue × DValue) → Option Bool) (l : List DValue) (hl : l.length < N) (hl2 : l.length ≤ 5000) (h : ∀ x ∈ l, ff (x, x) = some true) : slices_EqualFunc_O N l l ff = some true := by
  apply Sat.eq
  unfold slices_EqualFunc_O
  rw [decide_eq_true (p := ((l.length : Int) = (l.length : Int))) rfl]
  simp only [nt, cf]
  refine loop_inv0 (fun k i => slices_EqualFunc_l5 N ff l l k (i : Int)) l.length (fun _ => True) _ ?_ ?_ N 0 (by omega) (by omega) trivial
  · intro k i hi _ go
    show Sat (slices_EqualFunc_l5 N ff l l (k + 1) (i : Int)) _
    rw [slices_EqualFunc_l5_s, lt_t (by omega), ct, getE_n hi, bs, bs, h _ (List.getElem_mem _), bs]
    simp only [nt, cf]
    rw [r64 (by omega) (by omega)]
    exact go trivial
  · intro k _
    show Sat (slices_EqualFunc_l5 N ff l l (k + 1) _) _
    rw [slices_EqualFunc_l5_s, lt_f (by omega), cf]
    exact sat_some rfl
theorem values_refl (N : Nat) (t : DTwins) (hf : t.to_ = t.from_) (hh : hasM t.b_ = hasM t.a_) (l : List DValue) (hl : l.length < N) (hl2 : l.length ≤ 5000) (h64 : ∀ v ∈ l, in64 v.N) : reach_twins_values_O N t l l = some true := by
  unfold reach_twins_values_O
  rw [eqf_refl N _ l hl hl2 fun x hx => value_refl N t hf hh x (h64 x hx), bs]
theorem alike_same (N : Nat) (hN : 5000 < N) {a b : DMemory} {x : List DValue} (hsa : Small a x) (hsb : Small b x) (hwa : W64 a) (hx : ∀ v ∈ x, in64 v.N) (L : List Int) (hL : L.length ≤ 1200) (hL64 : ∀ z ∈ L, in64 z)
    (hh : hasM (bareM N b) = hasM (bareM N a)) (oa : reach_Order_O N (bareM N a) x = some L) (ob : reach_Order_O N (bareM N b) x = some L) (hat : ∀ z ∈ L, atM (bareM N b) z = atM (bareM N a) z) : reach_Alike_O N a x b x = some true := by
  apply Sat.eq
  have hsA := hsa.bare N
  have hsB := hsb.bare N
  have hwA := hwa.bare N
  have hxl := hsa.roots
  unfold reach_Alike_O
  rw [bare_prog N hN hsa, bs, bare_prog N hN hsb, bs, oa, bs, ob, bs, decide_eq_true (p := ((L.length : Int) = (L.length : Int))) rfl]
  simp only [nt, cf]
  generalize bareM N a = A at *
  generalize bareM N b = B at *
  refine loop_inv (fun k i (s : List (Int × Int) × List (Int × Int)) => reach_Alike_l33 N L x x A B L k (i : Int) s.1 s.2) L.length (fun _ s => s.2 = s.1) _ ?_ ?_ N 0 ([], []) (by omega) (by omega) rfl
  · rintro k i ⟨p, q⟩ hi h1 go
    simp only at h1
    subst h1
    show Sat (reach_Alike_l33 N L x x A B L (k + 1) (i : Int) q q) _
    rw [reach_Alike_l33_s, lt_t (by omega), ct, getE_n hi, bs, bs, r64 (by omega) (by omega)]
    exact go (_, _) rfl
  · rintro k ⟨p, q⟩ h1
    simp only at h1
    subst h1
    show Sat (reach_Alike_l33 N L x x A B L (k + 1) _ q q) _
    rw [reach_Alike_l33_s, lt_f (by omega), cf]
    unfold reach_Alike_j30
    rw [values_refl N _ rfl hh x (by omega) (by omega) hx, bs]
    simp only [nt, cf]
    refine loop_inv0 (fun k i => reach_Alike_l46 N L q q k (i : Int) A.Young A.Old B.Young B.Old L L) L.length (fun _ => True) _ ?_ ?_ N 0 (by omega) (by omega) trivial
    · intro f i hi _ go
      show Sat (reach_Alike_l46 N L q q (f + 1) (i : Int) A.Young A.Old B.Young B.Old L L) _
      have hz := List.getElem_mem hi
      have hz64 := hL64 _ hz
      have h1 := hsA.at_ L[i]
      have e1 : reach_At_O N ⟨A.Young, A.Old⟩ L[i] = some (atM A L[i]) := at_prog N hsA _ hz64
      have e2 : reach_At_O N ⟨B.Young, B.Old⟩ L[i] = some (atM A L[i]) := (at_prog N hsB _ hz64).trans (by rw [hat _ hz])
      have hcl := cleanW_len N L (atM A L[i])
      have hm : ∀ v ∈ (cleanW N L (atM A L[i])).Slots ++ (cleanW N L (atM A L[i])).More, in64 v.N := fun v hv => hwA.at_ _ v (cleanW_mem hv)
      rw [reach_Alike_l46_s, lt_t (by omega), ct, getE_n hi, bs, e1, bs, cleaned_prog N hN L (by omega) _ (by omega) (by omega), bs, bs, e2, bs, cleaned_prog N hN L (by omega) _ (by omega) (by omega), bs]
      generalize cleanW N L (atM A L[i]) = c at *
      rw [values_refl N _ rfl hh c.Slots (by omega) (by omega) fun v hv => hm v (List.mem_append_left _ hv), values_refl N _ rfl hh c.More (by omega) (by omega) fun v hv => hm v (List.mem_append_right _ hv)]
      rw [decide_eq_true (p := c.Kind = c.Kind) rfl, decide_eq_true (p := c.Shape = c.Shape) rfl, decide_eq_true (p := c.Flags = c.Flags) rfl]
      simp only [nt, cf, bs]
      rw [r64 (by omega) (by omega)]
      exact go trivial
    · intro f _
      show Sat (reach_Alike_l46 N L q q (f + 1) _ A.Young A.Old B.Young B.Old L L) _
      rw [reach_Alike_l46_s, lt_f (by omega), cf]
      exact sat_some rfl
end Go.Proofs.Ytmbaennilhdieaa
