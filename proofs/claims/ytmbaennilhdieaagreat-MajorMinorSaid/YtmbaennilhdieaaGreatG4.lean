/- Merged texts: part 4. No conditions of their own. -/
import Derived.Test.YtmbaennilhdieaaGreatG3
namespace Go.Proofs.YtmbaennilhdieaaGreat
variable {A1 A2 A3 A4 : Option Addr} {B1 B3 M5 c1 c2 c3 c4 n1 n2 n3 n4 : Nat}
open Go.RowKit Asn
set_option maxRecDepth 20000
def fq (N : Nat) (a0 : DCell) : Option Bool :=
 (o4 N a0.Kind).bind fun y4 => (bif y4 then (some true) else ((bif decide (a0.Kind = 7) then (some (decide (0 < (a0.Slots.length : Int)))) else (some false)).bind fun b6 => some b6)).bind fun b5 => bif b5 then ((bif decide (1 ≤ (a0.Slots.length : Int)) then (some (decide ((a0.Slots.length : Int) ≤ 1025))) else (some false)).bind fun b8 => (bif b8 then ((aG a0.Slots 0).bind fun x10 => (bif decide (x10.Kind = 1) then (some true) else ((aG a0.Slots 0).bind fun x12 => some (decide (x12.Kind = 7)))).bind fun b11 => some b11) else (some false)).bind fun b9 => some b9) else (bif decide (a0.Kind = 7) then (some (decide (a0.Shape = 0))) else ((bif !decide (a0.Shape = 0) then (some true) else (some (!decide (a0.Flags = 0)))).bind fun b14 => bif b14 then (some false) else (bif decide (a0.Kind = 5) then ((bif decide ((a0.Slots.length : Int) = 2) then ((aG a0.Slots 0).bind fun x18 => (er N x18 7).bind fun y19 => some y19) else (some false)).bind fun b17 => (bif b17 then ((aG a0.Slots 1).bind fun x21 => (er N x21 7).bind fun y22 => some y22) else (some false)).bind fun b20 => some b20) else (some (decide ((a0.Slots.length : Int) = 0))))))
theorem sj {N : Nat} {a0 : DCell} {r : Bool} (h : fq N a0 = some r) : Okc Tryz.prog 111 [.agg #[iV a0.Kind, iV a0.Shape, iV a0.Flags, iV a0.Age, .slice A1 n1 c1, .slice A2 n2 c2]] ([av A1 n1 c1 a0.Slots, av A2 n2 c2 a0.More]) (fun u post => u = .bool r ∧ post = []) := by
 refine bN Tryz.func111 rfl rfl ?_
 simp only [bc]
 refine run ?_
 refine gD (bo rfl rfl) ?_
 rintro _ _ ⟨B3, rfl, rfl⟩
 refine run ?_
 refine aB ?_
 refine run ?_
 obtain ⟨y4, hy4, h⟩ := aa h
 refine gD (am (Bg hy4) GM rfl (ae) xP) ?_
 rintro _ _ ⟨_, ⟨rfl, rfl⟩, rfl⟩
 refine run ?_
 obtain ⟨b5, hb5, h⟩ := aa h
 refine aX 10 16 b5 ?_ ?_
 ·clear h
  refine aY 6 rfl (fun g5 => ?_) (fun g5 => ?_)
  ·have h := ah g5 hb5
   refine run ?_
   obtain rfl := aq h
   exact ak sA (ad [0, 1, 2] 3 rfl rfl)
  have h := ai g5 hb5
  refine run ?_
  obtain ⟨b6, hb6, h⟩ := aa h
  refine aX 5 15 b6 ?_ ?_
  ·clear h
   refine aY 10 rfl (fun g6 => ?_) (fun g6 => ?_)
   ·have h := ah g6 hb6
    refine run ?_
    refine cY (aL 1 rfl ao rfl Tryz.underlying25) rfl (bd g6 rfl) rfl ?_
    refine run ?_
    obtain rfl := aq h
    exact ak sA (ad [0, 1, 2] 3 rfl rfl)
   have h := ai g6 hb6
   refine run ?_
   obtain rfl := aq h
   exact ak sA (ad [0, 1, 2] 3 rfl rfl)
  refine run ?_
  obtain rfl := aq h
  exact ak sA (ad [0, 1, 2] 3 rfl rfl)
 refine run ?_
 refine ay rfl (fun g7 => ?_) (fun g7 => ?_)
 ·replace h := ah g7 h
  refine run ?_
  refine gR (aL 1 rfl ao rfl Tryz.underlying25) ?_
  refine run ?_
  obtain ⟨b8, hb8, h⟩ := aa h
  refine aX 5 26 b8 ?_ ?_
  ·clear h
   refine aY 21 rfl (fun g8 => ?_) (fun g8 => ?_)
   ·have h := ah g8 hb8
    refine run ?_
    refine cY (aL 1 rfl ao rfl Tryz.underlying25) rfl (bd g8 rfl) rfl ?_
    refine run ?_
    obtain rfl := aq h
    exact ak sA (ad [0, 1, 2] 3 rfl rfl)
   have h := ai g8 hb8
   refine run ?_
   obtain rfl := aq h
   exact ak sA (ad [0, 1, 2] 3 rfl rfl)
  refine run ?_
  obtain ⟨b9, hb9, h⟩ := aa h
  refine aX 15 42 b9 ?_ ?_
  ·clear h
   refine aY 27 rfl (fun g9 => ?_) (fun g9 => ?_)
   ·have h := ah g9 hb9
    refine run ?_
    obtain ⟨x10, hx10, h⟩ := aa h
    obtain ⟨lx10, ux10, hx10⟩ := au hx10
    refine cY (aM 1 rfl ao rfl rfl Tryz.underlying25 bh lx10 ux10) rfl (bd g9 rfl) rfl ?_
    refine cY (wr 1 rfl ao rfl (dC lx10 ux10) kP) rfl (bd g9 rfl) rfl ?_
    refine cY (bK (u := iV x10.Kind) 1 rfl ao rfl hx10 eo (fun _ _ _ h => by rw [show _ = _ from h]; rfl)) rfl (bd g9 rfl) rfl ?_
    refine run ?_
    obtain ⟨b11, hb11, h⟩ := aa h
    refine aX 7 41 b11 ?_ ?_
    ·clear h
     refine aY 34 rfl (fun g11 => ?_) (fun g11 => ?_)
     ·have h := ah g11 hb11
      refine run ?_
      obtain rfl := aq h
      exact ak sA (ad [0, 1, 2] 3 rfl rfl)
     have h := ai g11 hb11
     refine run ?_
     obtain ⟨x12, hx12, h⟩ := aa h
     obtain ⟨lx12, ux12, hx12⟩ := au hx12
     refine cY (aM 1 rfl ao rfl rfl Tryz.underlying25 bh lx12 ux12) rfl (gm g11 rfl) rfl ?_
     refine cY (wr 1 rfl ao rfl (dC lx12 ux12) kP) rfl (gm g11 rfl) rfl ?_
     refine cY (bK (u := iV x12.Kind) 1 rfl ao rfl hx12 eo (fun _ _ _ h => by rw [show _ = _ from h]; rfl)) rfl (gm g11 rfl) rfl ?_
     refine run ?_
     obtain rfl := aq h
     exact ak sA (ad [0, 1, 2] 3 rfl rfl)
    refine run ?_
    obtain rfl := aq h
    exact ak sA (ad [0, 1, 2] 3 rfl rfl)
   have h := ai g9 hb9
   refine run ?_
   obtain rfl := aq h
   exact ak sA (ad [0, 1, 2] 3 rfl rfl)
  refine run ?_
  obtain rfl := aq h
  exact aQ rfl rfl (ad [] 3 rfl rfl) ⟨rfl, rfl⟩
 replace h := ai g7 h
 refine run ?_
 refine aB ?_
 refine run ?_
 refine ay rfl (fun g13 => ?_) (fun g13 => ?_)
 ·replace h := ah g13 h
  refine run ?_
  obtain rfl := aq h
  exact aQ rfl rfl (ad [] 3 rfl rfl) ⟨rfl, rfl⟩
 replace h := ai g13 h
 refine run ?_
 refine aB ?_
 refine run ?_
 obtain ⟨b14, hb14, h⟩ := aa h
 refine aX 4 56 b14 ?_ ?_
 ·clear h
  refine aY 52 rfl (fun g14 => ?_) (fun g14 => ?_)
  ·have h := ah g14 hb14
   refine run ?_
   obtain rfl := aq h
   exact ak sA (ad [0, 1, 2] 3 rfl rfl)
  have h := ai g14 hb14
  refine run ?_
  obtain rfl := aq h
  exact ak sA (ad [0, 1, 2] 3 rfl rfl)
 refine run ?_
 refine ay rfl (fun g15 => ?_) (fun g15 => ?_)
 ·replace h := ah g15 h
  refine run ?_
  obtain rfl := aq h
  exact aQ rfl rfl (ad [] 3 rfl rfl) ⟨rfl, rfl⟩
 replace h := ai g15 h
 refine run ?_
 refine aB ?_
 refine run ?_
 refine ay rfl (fun g16 => ?_) (fun g16 => ?_)
 ·replace h := ah g16 h
  refine run ?_
  refine gR (aL 1 rfl ao rfl Tryz.underlying25) ?_
  refine run ?_
  obtain ⟨b17, hb17, h⟩ := aa h
  refine aX 6 70 b17 ?_ ?_
  ·clear h
   refine aY 64 rfl (fun g17 => ?_) (fun g17 => ?_)
   ·have h := ah g17 hb17
    refine run ?_
    obtain ⟨x18, hx18, h⟩ := aa h
    obtain ⟨lx18, ux18, hx18⟩ := au hx18
    refine cY (aM 1 rfl ao rfl rfl Tryz.underlying25 bh lx18 ux18) rfl (bd g17 rfl) rfl ?_
    refine cY (bA (us := [iV x18.Kind, iV x18.N, .string x18.S]) 1 rfl ao rfl hx18 ca (fun _ _ _ h => by rw [show _ = _ from h]; rfl)) rfl (bd g17 rfl) rfl ?_
    obtain ⟨y19, hy19, h⟩ := aa h
    refine dj (am (fP hy19) qT rfl (ae) eE) rfl (bd g17 rfl) rfl ?_
    rintro _ _ ⟨_, ⟨rfl, rfl⟩, rfl⟩
    refine run ?_
    obtain rfl := aq h
    exact ak sA (ad [0, 1, 2] 3 rfl rfl)
   have h := ai g17 hb17
   refine run ?_
   obtain rfl := aq h
   exact ak sA (ad [0, 1, 2] 3 rfl rfl)
  refine run ?_
  obtain ⟨b20, hb20, h⟩ := aa h
  refine aX 6 77 b20 ?_ ?_
  ·clear h
   refine aY 71 rfl (fun g20 => ?_) (fun g20 => ?_)
   ·have h := ah g20 hb20
    refine run ?_
    obtain ⟨x21, hx21, h⟩ := aa h
    obtain ⟨lx21, ux21, hx21⟩ := au hx21
    refine cY (aM 1 rfl ao rfl rfl Tryz.underlying25 bh lx21 ux21) rfl (bd g20 rfl) rfl ?_
    refine cY (bA (us := [iV x21.Kind, iV x21.N, .string x21.S]) 1 rfl ao rfl hx21 ca (fun _ _ _ h => by rw [show _ = _ from h]; rfl)) rfl (bd g20 rfl) rfl ?_
    obtain ⟨y22, hy22, h⟩ := aa h
    refine dj (am (fP hy22) qT rfl (ae) eE) rfl (bd g20 rfl) rfl ?_
    rintro _ _ ⟨_, ⟨rfl, rfl⟩, rfl⟩
    refine run ?_
    obtain rfl := aq h
    exact ak sA (ad [0, 1, 2] 3 rfl rfl)
   have h := ai g20 hb20
   refine run ?_
   obtain rfl := aq h
   exact ak sA (ad [0, 1, 2] 3 rfl rfl)
  refine run ?_
  obtain rfl := aq h
  exact aQ rfl rfl (ad [] 3 rfl rfl) ⟨rfl, rfl⟩
 replace h := ai g16 h
 refine run ?_
 refine gR (aL 1 rfl ao rfl Tryz.underlying25) ?_
 refine run ?_
 obtain rfl := aq h
 exact aQ rfl rfl (ad [] 3 rfl rfl) ⟨rfl, rfl⟩
theorem qm {r : Bool} : ∀ v post, ((fun (u : Value) (post : List Chunk) => u = .bool r ∧ post = [])) v post → ∀ c ∈ post, cZ c := by
 rintro _ _ ⟨rfl, rfl⟩; exact ae
def eu (N : Nat) (a0 : DValue) (a1 : Int) (a2 : Int) : Option Bool :=
 (bif decide (a0.Kind = 3) then (some (decide (a1 ≤ a0.N))) else (some false)).bind fun b2 => (bif b2 then (some (decide (a0.N ≤ a2))) else (some false)).bind fun b3 => some b3
theorem fQ {N : Nat} {a0 : DValue} {a1 : Int} {a2 : Int} {r : Bool} (h : eu N a0 a1 a2 = some r) : Okc Tryz.prog 165 [.agg #[iV a0.Kind, iV a0.N, .string a0.S], iV a1, iV a2] ([]) (fun u post => u = .bool r ∧ post = []) := by
 refine bN Tryz.func165 rfl rfl ?_
 simp only [bc]
 refine run ?_
 refine gD (bo rfl rfl) ?_
 rintro _ _ ⟨B1, rfl, rfl⟩
 refine run ?_
 obtain ⟨b2, hb2, h⟩ := aa h
 refine aX 5 15 b2 ?_ ?_
 ·clear h
  refine aY 10 rfl (fun g2 => ?_) (fun g2 => ?_)
  ·have h := ah g2 hb2
   refine run ?_
   obtain rfl := aq h
   exact ak sA (ad [0] 1 rfl rfl)
  have h := ai g2 hb2
  refine run ?_
  obtain rfl := aq h
  exact ak sA (ad [0] 1 rfl rfl)
 refine run ?_
 obtain ⟨b3, hb3, h⟩ := aa h
 refine aX 5 21 b3 ?_ ?_
 ·clear h
  refine aY 16 rfl (fun g3 => ?_) (fun g3 => ?_)
  ·have h := ah g3 hb3
   refine run ?_
   obtain rfl := aq h
   exact ak sA (ad [0] 1 rfl rfl)
  have h := ai g3 hb3
  refine run ?_
  obtain rfl := aq h
  exact ak sA (ad [0] 1 rfl rfl)
 refine run ?_
 obtain rfl := aq h
 exact aQ rfl rfl (ad [] 1 rfl rfl) ⟨rfl, rfl⟩
theorem eF {r : Bool} : ∀ v post, ((fun (u : Value) (post : List Chunk) => u = .bool r ∧ post = [])) v post → ∀ c ∈ post, cZ c := by
 rintro _ _ ⟨rfl, rfl⟩; exact ae
def slices_Chunk_l4 (N : Nat) {σ : Type} (fy : (List DValue) → σ → Option (Bool × σ)) (a1 : (List DValue)) (a2 : Int) : Nat → Int → σ → Option σ
 | 0, _, _ => none
 | m4 + 1, p5, p6 => bif decide (p5 < (a1.length : Int)) then (bM ((0 : Int) ≤ p5 ∧ p5.toNat ≤ a1.length ∧ a1.length ≤ a1.length) (bM (in64 (p5 + (min a2 (((a1.drop p5.toNat).take (a1.length - p5.toNat)).length : Int)))) (bM (in64 (p5 + (min a2 (((a1.drop p5.toNat).take (a1.length - p5.toNat)).length : Int)))) (bM ((0 : Int) ≤ p5 ∧ (0 : Int) ≤ p5 + (min a2 (((a1.drop p5.toNat).take (a1.length - p5.toNat)).length : Int)) ∧ p5.toNat ≤ (p5 + (min a2 (((a1.drop p5.toNat).take (a1.length - p5.toNat)).length : Int))).toNat ∧ (p5 + (min a2 (((a1.drop p5.toNat).take (a1.length - p5.toNat)).length : Int))).toNat ≤ a1.length) ((fy ((a1.drop p5.toNat).take ((p5 + (min a2 (((a1.drop p5.toNat).take (a1.length - p5.toNat)).length : Int))).toNat - p5.toNat)) p6).bind fun y14 => bif !y14.1 then (some y14.2) else (bM (in64 (p5 + a2)) ((slices_Chunk_l4 N fy a1 a2 m4) (p5 + a2) y14.2))))))) else (some p6)
def mh (N : Nat) {σ : Type} (a1 : (List DValue)) (a2 : Int) (fy : (List DValue) → σ → Option (Bool × σ)) (s0 : σ) : Option σ :=
 slices_Chunk_l4 N fy a1 a2 N 0 s0
theorem vd {N : Nat} {σ : Type} {a1 : (List DValue)} {a2 : Int} {fy : (List DValue) → σ → Option (Bool × σ)} {s0 : σ} {r : σ} (h : mh N a1 a2 fy s0 = some r) {l : Nat} {G : σ → List Chunk} (hY : oD Tryz.prog l G (fun (x : (List DValue)) vs cs => ∃ A0 n0 c0, vs = [.slice A0 n0 c0] ∧ cs = [av A0 n0 c0 x]) fy) : Okc Tryz.prog 201 [.func (.yield l) #[] #[], pV B1 0, pV B3 0] (bU B1 25 [.slice A2 n2 c2] :: av A2 n2 c2 a1 :: bU B3 3 [iV a2] :: (G s0)) (fun u post => u = .tuple #[] ∧ post = G r) := by
 refine bN Tryz.func201 rfl rfl ?_
 simp only [bc]
 refine run ?_
 refine bp (fun m s L => ∃ p5 p6, slices_Chunk_l4 N fy a1 a2 m p5 p6 = some r ∧ s = [(0, .func (.yield l) #[] #[]), (1, pV B1 0), (2, pV B3 0), (4, iV p5)] ∧ L = av A2 n2 c2 a1 :: bU B1 25 [.slice A2 n2 c2] :: bU B3 3 [iV a2] :: (G p6)) N _ _ ⟨0, s0, h, rfl, rfl⟩ sA (ad [1, 0, 2] 3 rfl rfl) ?_
 rintro (_ | m4) _ _ ⟨p5, p6, h, rfl, rfl⟩
 ·exact aD h
 rw [slices_Chunk_l4.eq_2] at h
 refine aB ?_
 refine run ?_
 refine gR (ci 1 rfl rfl fe rfl) ?_
 refine gR (aL 0 rfl ao rfl Tryz.underlying25) ?_
 refine run ?_
 refine ay rfl (fun g7 => ?_) (fun g7 => ?_)
 ·replace h := ah g7 h
  refine run ?_
  refine aB ?_
  refine fG ?_
  refine aB ?_
  refine dB (by kernel_rfl) _ (ab _) ?_
  refine bv 0 rfl (by kernel_rfl) (ci 2 rfl rfl eo rfl) rfl rfl ?_
  refine bv 1 rfl (by kernel_rfl) (ci 1 rfl rfl fe rfl) rfl rfl ?_
  refine aI 2 rfl (by kernel_rfl) (az rfl) rfl rfl ?_
  obtain ⟨q8, h⟩ := ap h
  refine H1 0 rfl (l := p5.toNat) (h := a1.length) q8.2.1 q8.2.2 ?_
  rintro A9 n9 c9 e9
  refine bv 3 rfl (by kernel_rfl) (CO 1 rfl e9 rfl Tryz.underlying25 bh rfl (by rw [Int.toNat_of_nonneg q8.1]; rfl) q8.2.1) rfl rfl ?_
  refine bv 4 rfl (by kernel_rfl) (aL 0 rfl ao rfl Tryz.underlying25) rfl rfl ?_
  refine aI 5 rfl (by kernel_rfl) (HD rfl rfl Tryz.underlying3 Tryz.underlying3) rfl rfl ?_
  refine aI 6 rfl (by kernel_rfl) (bw rfl) rfl rfl ?_
  refine dA (by kernel_rfl) ?_
  refine run ?_
  refine gR (ci 2 rfl rfl fe rfl) ?_
  refine run ?_
  obtain ⟨q10, h⟩ := ap h
  refine gE (aR rfl rfl q10.1 q10.2) ?_
  refine run ?_
  obtain ⟨q11, h⟩ := ap h
  refine gE (aR rfl rfl q11.1 q11.2) ?_
  obtain ⟨q12, h⟩ := ap h
  refine F1 1 rfl (l := p5.toNat) (h := (p5 + (min a2 (((a1.drop p5.toNat).take (a1.length - p5.toNat)).length : Int))).toNat) q12.2.2.1 q12.2.2.2 ?_
  rintro A13 n13 c13 e13
  refine gR (CP 2 rfl e13 rfl Tryz.underlying25 bh rfl (by rw [Int.toNat_of_nonneg q12.1]; rfl) (by rw [Int.toNat_of_nonneg q12.2.1]; rfl) (by rw [Int.toNat_of_nonneg q12.2.1]; rfl) q12.2.2.1 q12.2.2.2) ?_
  obtain ⟨y14, hy14, h⟩ := aa h
  refine gD (yl (a := (a1.drop p5.toNat).take ((p5 + (min a2 (((a1.drop p5.toNat).take (a1.length - p5.toNat)).length : Int))).toNat - p5.toNat)) [av A13 n13 c13 ((a1.drop p5.toNat).take ((p5 + (min a2 (((a1.drop p5.toNat).take (a1.length - p5.toNat)).length : Int))).toNat - p5.toNat)), av A9 n9 c9 ((a1.drop p5.toNat).take (a1.length - p5.toNat)), av A2 n2 c2 a1, bU B1 25 [.slice A2 n2 c2], bU B3 3 [iV a2]] hY hy14 rfl rfl ⟨_, _, _, rfl, rfl⟩ (cW 0 rfl rfl)) ?_
  rintro _ _ ⟨rfl, rfl⟩
  refine run ?_
  refine ay rfl (fun g15 => ?_) (fun g15 => ?_)
  ·replace h := ah g15 h
   refine run ?_
   obtain rfl := aq h
   exact yM rfl (ad [] 5 rfl rfl) ⟨rfl, rfl⟩
  replace h := ai g15 h
  refine run ?_
  refine gR (ci 4 rfl rfl eo rfl) ?_
  obtain ⟨q16, h⟩ := ap h
  refine gE (aR rfl rfl q16.1 q16.2) ?_
  refine run ?_
  exact ⟨m4, _, _, Nat.lt_succ_self _, ⟨p5 + a2, y14.2, h, rfl, rfl⟩, sA, ad [2, 3, 4] 5 rfl rfl⟩
 replace h := ai g7 h
 refine run ?_
 obtain rfl := aq h
 exact jo rfl (ad [] 3 rfl rfl) ⟨rfl, rfl⟩
def ge (N : Nat) (a0 : (List DValue)) (a1 : Int) : Option Unit :=
 bif decide (a1 < 1) then none else (some ())
theorem qZ {N : Nat} {a0 : (List DValue)} {a1 : Int} {r : Unit} (h : ge N a0 a1 = some r) : Okc Tryz.prog 191 [.slice A1 n1 c1, iV a1] ([av A1 n1 c1 a0]) (fun u post => ∃ B900 B901, u = .func (.func 201) #[] #[pV B900 0, pV B901 0] ∧ post = [ag B900 25 [.slice A1 n1 c1], ag B901 3 [iV a1]]) := by
 refine bN Tryz.func191 rfl rfl ?_
 simp only [bc]
 refine run ?_
 refine gD (bo rfl rfl) ?_
 rintro _ _ ⟨B2, rfl, rfl⟩
 refine gD (bo rfl rfl) ?_
 rintro _ _ ⟨B3, rfl, rfl⟩
 refine run ?_
 refine aB ?_
 refine run ?_
 refine ay rfl (fun g4 => ?_) (fun g4 => ?_)
 ·replace h := ah g4 h
  exact aD h
 replace h := ai g4 h
 refine run ?_
 refine gE (dU rfl) ?_
 refine run ?_
 obtain rfl := aq h
 exact aQ rfl rfl (ad [1, 0] 3 rfl rfl) ⟨_, _, rfl, rfl⟩
theorem pp {a1 : Int} {A1 : Option Addr} {n1 : Nat} {c1 : Nat} : ∀ v post, ((fun (u : Value) (post : List Chunk) => ∃ B900 B901, u = .func (.func 201) #[] #[pV B900 0, pV B901 0] ∧ post = [ag B900 25 [.slice A1 n1 c1], ag B901 3 [iV a1]])) v post → ∀ c ∈ post, cZ c := by
 rintro _ _ ⟨_, _, rfl, rfl⟩; exact mem_cons mI (mem_cons mI (ae))
def bT (N : Nat) (a1 : Int) (x9 : (List DValue)) : (Unit) → Option (Option Exit × Unit)
 |() => (aG x9 0).bind fun x12 => (bif !decide (x12.Kind = 7) then (some true) else ((aG x9 1).bind fun x14 => some (decide (x14.Kind = 8)))).bind fun b13 => bif b13 then (some (some .ret, ())) else ((bif decide (a1 = 4) then ((aG x9 2).bind fun x17 => (er N x17 7).bind fun y18 => (bif !y18 then (some true) else ((aG x9 3).bind fun x20 => (eu N x20 0 9007199254740992).bind fun y21 => some (!y21))).bind fun b19 => some b19) else (some false)).bind fun b16 => bif b16 then (some (some .ret, ())) else (some (none, ())))
def dc (N : Nat) (a0 : (List DValue)) (a1 : Int) : Option Bool :=
 bM (a1 ≠ 0) (bif !decide ((a0.length : Int).tmod a1 = 0) then (some false) else ((ge N a0 a1).bind fun y6 => (mh N a0 a1 (cK (fun x st => bT N a1 x st)) (none, ())).bind fun y11 => oz y11.1 (some true) (some false) (fun _ => none)))
theorem ll {N : Nat} {a0 : (List DValue)} {a1 : Int} {r : Bool} (h : dc N a0 a1 = some r) : Okc Tryz.prog 166 [.slice A1 n1 c1, iV a1] ([av A1 n1 c1 a0]) (fun u post => u = .bool r ∧ post = []) := by
 refine bN Tryz.func166 rfl rfl ?_
 simp only [bc]
 refine run ?_
 refine gD (bo rfl rfl) ?_
 rintro _ _ ⟨B2, rfl, rfl⟩
 refine gD (aJ Ae rfl) ?_
 rintro _ _ ⟨B3, rfl, rfl⟩
 refine run ?_
 refine aB ?_
 refine run ?_
 refine gR (aL 2 rfl ao rfl Tryz.underlying25) ?_
 refine run ?_
 obtain ⟨q4, h⟩ := ap h
 refine gE (sc rfl rfl q4) ?_
 refine run ?_
 refine ay rfl (fun g5 => ?_) (fun g5 => ?_)
 ·replace h := ah g5 h
  refine run ?_
  refine gO (ar (us := [.bool false]) (cs' := [.bool false]) 0 rfl rfl rfl rfl vY rfl rfl rfl) ?_
  rintro _ _ rfl
  refine run ?_
  obtain rfl := aq h
  exact eP (rs := [.cell 4 4]) (vs := [.bool false]) rfl (.cons (kF 0 rfl rfl BV) .nil) rfl (ad [] 3 rfl rfl) ⟨rfl, rfl⟩
 replace h := ai g5 h
 refine run ?_
 refine aB ?_
 refine run ?_
 obtain ⟨y6, hy6, h⟩ := aa h
 refine gD (am (qZ hy6) GG rfl (mem_cons (aj (i := 2) rfl rfl) ae) pp) ?_
 rintro _ _ ⟨_, ⟨B7, B8, rfl, rfl⟩, rfl⟩
 refine nH ?_
 refine lN ?_
 refine dK ?_ cw (fO 0 rfl)
 refine dK ?_ cw (fO 1 rfl)
 refine qW ([bU B7 25 [.slice A1 n1 c1], bU B8 3 [iV a1], ag B3 4 [.bool false], ag B2 3 [iV a1], av A1 n1 c1 a0]) rfl ?_
 obtain ⟨y11, hy11, h⟩ := aa h
 refine zc (R := (fun (x : (List DValue)) vs cs => ∃ A0 n0 c0, vs = [.slice A0 n0 c0] ∧ cs = [av A0 n0 c0 x])) (fun x st => bT N a1 x st) (fun (st : Unit) (mz : Unit) => [ag B2 3 [iV a1], ag B3 4 [.bool false]]) [bU B7 25 [.slice A1 n1 c1], av A1 n1 c1 a0, bU B8 3 [iV a1]] (()) (()) rfl rfl GD rfl (by rintro _ _ _ ⟨_, _, _, rfl, rfl⟩; rfl) (fun l G hY => (vd hy11 hY).mono fun _ _ hh => hh.2) (be [0, 4, 1] [] [3, 2] 5 rfl) h ?_ ?_ ?_ ?_
 ·rintro l x9 _ je sr9 _ h _ _ ⟨A10, n10, c10, rfl, rfl⟩
  replace h : bT N a1 x9 () = some (je, sr9) := h
  simp only [sd, List.zip_cons_cons, List.zip_nil_left, List.zip_nil_right, List.reverse_cons, List.reverse_nil, List.nil_append, List.cons_append]
  refine run ?_
  refine aB ?_
  refine run ?_
  obtain ⟨x12, hx12, h⟩ := aa h
  obtain ⟨lx12, ux12, hx12⟩ := au hx12
  refine gR (aM 0 rfl ao rfl rfl Tryz.underlying25 bh lx12 ux12) ?_
  refine gR (wr 0 rfl ao rfl (dC lx12 ux12) kP) ?_
  refine gR (bK (u := iV x12.Kind) 0 rfl ao rfl hx12 eo (fun _ _ _ h => by rw [show _ = _ from h]; rfl)) ?_
  refine run ?_
  obtain ⟨b13, hb13, h⟩ := aa h
  refine aX 6 26 b13 ?_ ?_
  ·clear h
   refine aY 20 rfl (fun g13 => ?_) (fun g13 => ?_)
   ·have h := ah g13 hb13
    refine run ?_
    obtain rfl := aq h
    exact ak sA (ad [0, 1, 2] 3 rfl rfl)
   have h := ai g13 hb13
   refine run ?_
   obtain ⟨x14, hx14, h⟩ := aa h
   obtain ⟨lx14, ux14, hx14⟩ := au hx14
   refine cY (aM 0 rfl ao rfl rfl Tryz.underlying25 bh lx14 ux14) rfl (gm g13 rfl) rfl ?_
   refine cY (wr 0 rfl ao rfl (dC lx14 ux14) kP) rfl (gm g13 rfl) rfl ?_
   refine cY (bK (u := iV x14.Kind) 0 rfl ao rfl hx14 eo (fun _ _ _ h => by rw [show _ = _ from h]; rfl)) rfl (gm g13 rfl) rfl ?_
   refine run ?_
   obtain rfl := aq h
   exact ak sA (ad [0, 1, 2] 3 rfl rfl)
  refine run ?_
  refine ay rfl (fun g15 => ?_) (fun g15 => ?_)
  ·replace h := ah g15 h
   refine run ?_
   refine gO (ar (us := [.bool false]) (cs' := [.bool false]) 2 rfl rfl rfl rfl vY rfl rfl rfl) ?_
   rintro _ _ rfl
   refine run ?_
   obtain ⟨rfl, rfl⟩ := Prod.mk.inj (Option.some.inj h)
   exact CC ((ad [1, 2] 3 rfl rfl).trans (dF () rfl))
  replace h := ai g15 h
  refine run ?_
  obtain ⟨b16, hb16, h⟩ := aa h
  refine aX 13 42 b16 ?_ ?_
  ·clear h
   refine aY 29 rfl (fun g16 => ?_) (fun g16 => ?_)
   ·have h := ah g16 hb16
    refine run ?_
    obtain ⟨x17, hx17, h⟩ := aa h
    obtain ⟨lx17, ux17, hx17⟩ := au hx17
    refine cY (aM 0 rfl ao rfl rfl Tryz.underlying25 bh lx17 ux17) rfl (bd g16 rfl) rfl ?_
    refine cY (bA (us := [iV x17.Kind, iV x17.N, .string x17.S]) 0 rfl ao rfl hx17 ca (fun _ _ _ h => by rw [show _ = _ from h]; rfl)) rfl (bd g16 rfl) rfl ?_
    obtain ⟨y18, hy18, h⟩ := aa h
    refine dj (am (fP hy18) qT rfl (ae) eE) rfl (bd g16 rfl) rfl ?_
    rintro _ _ ⟨_, ⟨rfl, rfl⟩, rfl⟩
    refine run ?_
    obtain ⟨b19, hb19, h⟩ := aa h
    refine aX 6 41 b19 ?_ ?_
    ·clear h
     refine aY 35 rfl (fun g19 => ?_) (fun g19 => ?_)
     ·have h := ah g19 hb19
      refine run ?_
      obtain rfl := aq h
      exact ak sA (ad [0, 1, 2] 3 rfl rfl)
     have h := ai g19 hb19
     refine run ?_
     obtain ⟨x20, hx20, h⟩ := aa h
     obtain ⟨lx20, ux20, hx20⟩ := au hx20
     refine cY (aM 0 rfl ao rfl rfl Tryz.underlying25 bh lx20 ux20) rfl (gm g19 rfl) rfl ?_
     refine cY (bA (us := [iV x20.Kind, iV x20.N, .string x20.S]) 0 rfl ao rfl hx20 ca (fun _ _ _ h => by rw [show _ = _ from h]; rfl)) rfl (gm g19 rfl) rfl ?_
     obtain ⟨y21, hy21, h⟩ := aa h
     refine dj (am (fQ hy21) qS rfl (ae) eF) rfl (gm g19 rfl) rfl ?_
     rintro _ _ ⟨_, ⟨rfl, rfl⟩, rfl⟩
     refine run ?_
     obtain rfl := aq h
     exact ak sA (ad [0, 1, 2] 3 rfl rfl)
    refine run ?_
    obtain rfl := aq h
    exact ak sA (ad [0, 1, 2] 3 rfl rfl)
   have h := ai g16 hb16
   refine run ?_
   obtain rfl := aq h
   exact ak sA (ad [0, 1, 2] 3 rfl rfl)
  refine run ?_
  refine ay rfl (fun g22 => ?_) (fun g22 => ?_)
  ·replace h := ah g22 h
   refine run ?_
   refine gO (ar (us := [.bool false]) (cs' := [.bool false]) 2 rfl rfl rfl rfl vY rfl rfl rfl) ?_
   rintro _ _ rfl
   refine run ?_
   obtain ⟨rfl, rfl⟩ := Prod.mk.inj (Option.some.inj h)
   exact CC ((ad [1, 2] 3 rfl rfl).trans (dF () rfl))
  replace h := ai g22 h
  refine run ?_
  obtain ⟨rfl, rfl⟩ := Prod.mk.inj (Option.some.inj h)
  exact ux ((ad [1, 2] 3 rfl rfl).trans (dF () rfl))
 ·rintro _ h
  refine jZ ([ag B2 3 [iV a1], ag B3 4 [.bool false]]) rfl ?_
  refine run ?_
  refine gO (ar (us := [.bool true]) (cs' := [.bool true]) 1 rfl rfl rfl rfl vY rfl rfl rfl) ?_
  rintro _ _ rfl
  refine bC ([ag B2 3 [iV a1], ag B3 4 [.bool true]]) rfl ?_
  refine run ?_
  obtain rfl := aq h
  exact eP (rs := [.cell 4 4]) (vs := [.bool true]) rfl (.cons (kF 1 rfl rfl BV) .nil) rfl (ad [] 2 rfl rfl) ⟨rfl, rfl⟩
 ·rintro _ h
  refine jZ ([ag B2 3 [iV a1], ag B3 4 [.bool false]]) rfl ?_
  refine run ?_
  obtain rfl := aq h
  exact eP (rs := [.cell 4 4]) (vs := [.bool false]) rfl (.cons (kF 1 rfl rfl BV) .nil) rfl (ad [] 2 rfl rfl) ⟨rfl, rfl⟩
 rintro i _ h
 exact aD h
theorem jT {r : Bool} : ∀ v post, ((fun (u : Value) (post : List Chunk) => u = .bool r ∧ post = [])) v post → ∀ c ∈ post, cZ c := by
 rintro _ _ ⟨rfl, rfl⟩; exact ae
def gW (N : Nat) (a0 : Int) (a1 : (List DValue)) (p5 : Bool) : Option Bool :=
 bif p5 then (some (decide ((a1.length : Int) = 0))) else (bif decide (a0 = 3) then ((bif decide ((a1.length : Int) = 3) then ((aG a1 0).bind fun x10 => (eu N x10 0 9007199254740992).bind fun y11 => some y11) else (some false)).bind fun b9 => (bif b9 then ((aG a1 1).bind fun x13 => (er N x13 9).bind fun y14 => some y14) else (some false)).bind fun b12 => some b12) else (bif decide (a0 = 4) then ((bif decide (1 ≤ (a1.length : Int)) then (some (decide ((a1.length : Int) ≤ 4097))) else (some false)).bind fun b16 => (bif b16 then ((aG a1 0).bind fun x18 => (er N x18 9).bind fun y19 => some y19) else (some false)).bind fun b17 => some b17) else (bif decide (a0 = 6) then ((bif decide ((a1.length : Int) = 2) then ((aG a1 0).bind fun x22 => (eu N x22 0 3).bind fun y23 => some y23) else (some false)).bind fun b21 => (bif b21 then ((aG a1 1).bind fun x25 => (er N x25 9).bind fun y26 => some y26) else (some false)).bind fun b24 => some b24) else (bif decide (a0 = 7) then ((bif decide (4 ≤ (a1.length : Int)) then ((aG a1 2).bind fun x29 => (eu N x29 0 1).bind fun y30 => some y30) else (some false)).bind fun b28 => (bif b28 then ((aG a1 3).bind fun x32 => (eu N x32 0 9007199254740992).bind fun y33 => some y33) else (some false)).bind fun b31 => some b31) else (bif decide (a0 = 8) then ((dc N a1 2).bind fun y35 => some y35) else (bif decide (a0 = 10) then ((bif decide (1 ≤ (a1.length : Int)) then ((aG a1 0).bind fun x38 => some (decide (x38.Kind = 7))) else (some false)).bind fun b37 => (bif b37 then (bM ((0 : Int) ≤ 1 ∧ (1 : Int).toNat ≤ a1.length ∧ a1.length ≤ a1.length) ((dc N ((a1.drop ((1 : Int).toNat)).take (a1.length - (1 : Int).toNat)) 4).bind fun y42 => some y42)) else (some false)).bind fun b39 => some b39) else (bif decide (a0 = 9) then ((bif decide (2 ≤ (a1.length : Int)) then ((aG a1 0).bind fun x45 => (eu N x45 0 2).bind fun y46 => some y46) else (some false)).bind fun b44 => some b44) else (some true))))))))
def fR (N : Nat) (a0 : Int) (a1 : (List DValue)) : Option Bool :=
 bif decide (1048576 < (a1.length : Int)) then (some false) else (bif decide (a0 = 2) then (some (decide ((a1.length : Int) ≤ 4096))) else (bif decide (a0 = 1) then (gW N a0 a1 (decide (a0 = 1))) else (gW N a0 a1 (decide (a0 = 5)))))
set_option maxHeartbeats 4000000 in
theorem tI {N : Nat} {a0 : Int} {a1 : (List DValue)} {r : Bool} (h : fR N a0 a1 = some r) : Okc Tryz.prog 112 [iV a0, .slice A1 n1 c1] ([av A1 n1 c1 a1]) (fun u post => u = .bool r ∧ post = []) := by
 refine bN Tryz.func112 rfl rfl ?_
 simp only [bc]
 refine run ?_
 refine aB ?_
 refine run ?_
 refine gR (aL 0 rfl ao rfl Tryz.underlying25) ?_
 refine run ?_
 refine ay rfl (fun g2 => ?_) (fun g2 => ?_)
 ·replace h := ah g2 h
  refine run ?_
  obtain rfl := aq h
  exact aQ rfl rfl (ad [] 1 rfl rfl) ⟨rfl, rfl⟩
 replace h := ai g2 h
 refine run ?_
 refine aB ?_
 refine run ?_
 refine ay rfl (fun g3 => ?_) (fun g3 => ?_)
 ·replace h := ah g3 h
  refine run ?_
  refine gR (aL 0 rfl ao rfl Tryz.underlying25) ?_
  refine run ?_
  obtain rfl := aq h
  exact aQ rfl rfl (ad [] 1 rfl rfl) ⟨rfl, rfl⟩
 replace h := ai g3 h
 refine aS (fun s L => ∃ p5, gW N a0 a1 p5 = some r ∧ s = [(1, .slice A1 n1 c1), (4, .bool false), (8, iV a0), (14, .bool p5)] ∧ L = [av A1 n1 c1 a1]) ?_ ?_
 ·refine run ?_
  refine ay rfl (fun g6 => ?_) (fun g6 => ?_)
  ·replace h := ah g6 h
   refine run ?_
   exact ⟨_, _, ⟨decide (a0 = 1), h, rfl, rfl⟩, sA, ad [0] 1 rfl rfl⟩
  replace h := ai g6 h
  refine run ?_
  exact ⟨_, _, ⟨decide (a0 = 5), h, rfl, rfl⟩, sA, ad [0] 1 rfl rfl⟩
 rintro _ _ ⟨p5, h, rfl, rfl⟩
 refine ay rfl (fun g7 => ?_) (fun g7 => ?_)
 ·replace h := ah g7 h
  refine run ?_
  refine gR (aL 0 rfl ao rfl Tryz.underlying25) ?_
  refine run ?_
  obtain rfl := aq h
  exact aQ rfl rfl (ad [] 1 rfl rfl) ⟨rfl, rfl⟩
 replace h := ai g7 h
 refine run ?_
 refine ay rfl (fun g8 => ?_) (fun g8 => ?_)
 ·replace h := ah g8 h
  refine run ?_
  refine gR (aL 0 rfl ao rfl Tryz.underlying25) ?_
  refine run ?_
  obtain ⟨b9, hb9, h⟩ := aa h
  refine aX 5 30 b9 ?_ ?_
  ·clear h
   refine aY 25 rfl (fun g9 => ?_) (fun g9 => ?_)
   ·have h := ah g9 hb9
    refine run ?_
    obtain ⟨x10, hx10, h⟩ := aa h
    obtain ⟨lx10, ux10, hx10⟩ := au hx10
    refine cY (aM 0 rfl ao rfl rfl Tryz.underlying25 bh lx10 ux10) rfl (bd g9 rfl) rfl ?_
    refine cY (bA (us := [iV x10.Kind, iV x10.N, .string x10.S]) 0 rfl ao rfl hx10 ca (fun _ _ _ h => by rw [show _ = _ from h]; rfl)) rfl (bd g9 rfl) rfl ?_
    obtain ⟨y11, hy11, h⟩ := aa h
    refine dj (am (fQ hy11) qS rfl (ae) eF) rfl (bd g9 rfl) rfl ?_
    rintro _ _ ⟨_, ⟨rfl, rfl⟩, rfl⟩
    refine run ?_
    obtain rfl := aq h
    exact ak sA (ad [0] 1 rfl rfl)
   have h := ai g9 hb9
   refine run ?_
   obtain rfl := aq h
   exact ak sA (ad [0] 1 rfl rfl)
  refine run ?_
  obtain ⟨b12, hb12, h⟩ := aa h
  refine aX 5 36 b12 ?_ ?_
  ·clear h
   refine aY 31 rfl (fun g12 => ?_) (fun g12 => ?_)
   ·have h := ah g12 hb12
    refine run ?_
    obtain ⟨x13, hx13, h⟩ := aa h
    obtain ⟨lx13, ux13, hx13⟩ := au hx13
    refine cY (aM 0 rfl ao rfl rfl Tryz.underlying25 bh lx13 ux13) rfl (bd g12 rfl) rfl ?_
    refine cY (bA (us := [iV x13.Kind, iV x13.N, .string x13.S]) 0 rfl ao rfl hx13 ca (fun _ _ _ h => by rw [show _ = _ from h]; rfl)) rfl (bd g12 rfl) rfl ?_
    obtain ⟨y14, hy14, h⟩ := aa h
    refine dj (am (fP hy14) qT rfl (ae) eE) rfl (bd g12 rfl) rfl ?_
    rintro _ _ ⟨_, ⟨rfl, rfl⟩, rfl⟩
    refine run ?_
    obtain rfl := aq h
    exact ak sA (ad [0] 1 rfl rfl)
   have h := ai g12 hb12
   refine run ?_
   obtain rfl := aq h
   exact ak sA (ad [0] 1 rfl rfl)
  refine run ?_
  obtain rfl := aq h
  exact aQ rfl rfl (ad [] 1 rfl rfl) ⟨rfl, rfl⟩
 replace h := ai g8 h
 refine run ?_
 refine ay rfl (fun g15 => ?_) (fun g15 => ?_)
 ·replace h := ah g15 h
  refine run ?_
  refine gR (aL 0 rfl ao rfl Tryz.underlying25) ?_
  refine run ?_
  obtain ⟨b16, hb16, h⟩ := aa h
  refine aX 4 46 b16 ?_ ?_
  ·clear h
   refine aY 42 rfl (fun g16 => ?_) (fun g16 => ?_)
   ·have h := ah g16 hb16
    refine run ?_
    refine cY (aL 0 rfl ao rfl Tryz.underlying25) rfl (bd g16 rfl) rfl ?_
    refine run ?_
    obtain rfl := aq h
    exact ak sA (ad [0] 1 rfl rfl)
   have h := ai g16 hb16
   refine run ?_
   obtain rfl := aq h
   exact ak sA (ad [0] 1 rfl rfl)
  refine run ?_
  obtain ⟨b17, hb17, h⟩ := aa h
  refine aX 5 52 b17 ?_ ?_
  ·clear h
   refine aY 47 rfl (fun g17 => ?_) (fun g17 => ?_)
   ·have h := ah g17 hb17
    refine run ?_
    obtain ⟨x18, hx18, h⟩ := aa h
    obtain ⟨lx18, ux18, hx18⟩ := au hx18
    refine cY (aM 0 rfl ao rfl rfl Tryz.underlying25 bh lx18 ux18) rfl (bd g17 rfl) rfl ?_
    refine cY (bA (us := [iV x18.Kind, iV x18.N, .string x18.S]) 0 rfl ao rfl hx18 ca (fun _ _ _ h => by rw [show _ = _ from h]; rfl)) rfl (bd g17 rfl) rfl ?_
    obtain ⟨y19, hy19, h⟩ := aa h
    refine dj (am (fP hy19) qT rfl (ae) eE) rfl (bd g17 rfl) rfl ?_
    rintro _ _ ⟨_, ⟨rfl, rfl⟩, rfl⟩
    refine run ?_
    obtain rfl := aq h
    exact ak sA (ad [0] 1 rfl rfl)
   have h := ai g17 hb17
   refine run ?_
   obtain rfl := aq h
   exact ak sA (ad [0] 1 rfl rfl)
  refine run ?_
  obtain rfl := aq h
  exact aQ rfl rfl (ad [] 1 rfl rfl) ⟨rfl, rfl⟩
 replace h := ai g15 h
 refine run ?_
 refine ay rfl (fun g20 => ?_) (fun g20 => ?_)
 ·replace h := ah g20 h
  refine run ?_
  refine gR (aL 0 rfl ao rfl Tryz.underlying25) ?_
  refine run ?_
  obtain ⟨b21, hb21, h⟩ := aa h
  refine aX 5 63 b21 ?_ ?_
  ·clear h
   refine aY 58 rfl (fun g21 => ?_) (fun g21 => ?_)
   ·have h := ah g21 hb21
    refine run ?_
    obtain ⟨x22, hx22, h⟩ := aa h
    obtain ⟨lx22, ux22, hx22⟩ := au hx22
    refine cY (aM 0 rfl ao rfl rfl Tryz.underlying25 bh lx22 ux22) rfl (bd g21 rfl) rfl ?_
    refine cY (bA (us := [iV x22.Kind, iV x22.N, .string x22.S]) 0 rfl ao rfl hx22 ca (fun _ _ _ h => by rw [show _ = _ from h]; rfl)) rfl (bd g21 rfl) rfl ?_
    obtain ⟨y23, hy23, h⟩ := aa h
    refine dj (am (fQ hy23) qS rfl (ae) eF) rfl (bd g21 rfl) rfl ?_
    rintro _ _ ⟨_, ⟨rfl, rfl⟩, rfl⟩
    refine run ?_
    obtain rfl := aq h
    exact ak sA (ad [0] 1 rfl rfl)
   have h := ai g21 hb21
   refine run ?_
   obtain rfl := aq h
   exact ak sA (ad [0] 1 rfl rfl)
  refine run ?_
  obtain ⟨b24, hb24, h⟩ := aa h
  refine aX 5 69 b24 ?_ ?_
  ·clear h
   refine aY 64 rfl (fun g24 => ?_) (fun g24 => ?_)
   ·have h := ah g24 hb24
    refine run ?_
    obtain ⟨x25, hx25, h⟩ := aa h
    obtain ⟨lx25, ux25, hx25⟩ := au hx25
    refine cY (aM 0 rfl ao rfl rfl Tryz.underlying25 bh lx25 ux25) rfl (bd g24 rfl) rfl ?_
    refine cY (bA (us := [iV x25.Kind, iV x25.N, .string x25.S]) 0 rfl ao rfl hx25 ca (fun _ _ _ h => by rw [show _ = _ from h]; rfl)) rfl (bd g24 rfl) rfl ?_
    obtain ⟨y26, hy26, h⟩ := aa h
    refine dj (am (fP hy26) qT rfl (ae) eE) rfl (bd g24 rfl) rfl ?_
    rintro _ _ ⟨_, ⟨rfl, rfl⟩, rfl⟩
    refine run ?_
    obtain rfl := aq h
    exact ak sA (ad [0] 1 rfl rfl)
   have h := ai g24 hb24
   refine run ?_
   obtain rfl := aq h
   exact ak sA (ad [0] 1 rfl rfl)
  refine run ?_
  obtain rfl := aq h
  exact aQ rfl rfl (ad [] 1 rfl rfl) ⟨rfl, rfl⟩
 replace h := ai g20 h
 refine run ?_
 refine ay rfl (fun g27 => ?_) (fun g27 => ?_)
 ·replace h := ah g27 h
  refine run ?_
  refine gR (aL 0 rfl ao rfl Tryz.underlying25) ?_
  refine run ?_
  obtain ⟨b28, hb28, h⟩ := aa h
  refine aX 5 80 b28 ?_ ?_
  ·clear h
   refine aY 75 rfl (fun g28 => ?_) (fun g28 => ?_)
   ·have h := ah g28 hb28
    refine run ?_
    obtain ⟨x29, hx29, h⟩ := aa h
    obtain ⟨lx29, ux29, hx29⟩ := au hx29
    refine cY (aM 0 rfl ao rfl rfl Tryz.underlying25 bh lx29 ux29) rfl (bd g28 rfl) rfl ?_
    refine cY (bA (us := [iV x29.Kind, iV x29.N, .string x29.S]) 0 rfl ao rfl hx29 ca (fun _ _ _ h => by rw [show _ = _ from h]; rfl)) rfl (bd g28 rfl) rfl ?_
    obtain ⟨y30, hy30, h⟩ := aa h
    refine dj (am (fQ hy30) qS rfl (ae) eF) rfl (bd g28 rfl) rfl ?_
    rintro _ _ ⟨_, ⟨rfl, rfl⟩, rfl⟩
    refine run ?_
    obtain rfl := aq h
    exact ak sA (ad [0] 1 rfl rfl)
   have h := ai g28 hb28
   refine run ?_
   obtain rfl := aq h
   exact ak sA (ad [0] 1 rfl rfl)
  refine run ?_
  obtain ⟨b31, hb31, h⟩ := aa h
  refine aX 5 86 b31 ?_ ?_
  ·clear h
   refine aY 81 rfl (fun g31 => ?_) (fun g31 => ?_)
   ·have h := ah g31 hb31
    refine run ?_
    obtain ⟨x32, hx32, h⟩ := aa h
    obtain ⟨lx32, ux32, hx32⟩ := au hx32
    refine cY (aM 0 rfl ao rfl rfl Tryz.underlying25 bh lx32 ux32) rfl (bd g31 rfl) rfl ?_
    refine cY (bA (us := [iV x32.Kind, iV x32.N, .string x32.S]) 0 rfl ao rfl hx32 ca (fun _ _ _ h => by rw [show _ = _ from h]; rfl)) rfl (bd g31 rfl) rfl ?_
    obtain ⟨y33, hy33, h⟩ := aa h
    refine dj (am (fQ hy33) qS rfl (ae) eF) rfl (bd g31 rfl) rfl ?_
    rintro _ _ ⟨_, ⟨rfl, rfl⟩, rfl⟩
    refine run ?_
    obtain rfl := aq h
    exact ak sA (ad [0] 1 rfl rfl)
   have h := ai g31 hb31
   refine run ?_
   obtain rfl := aq h
   exact ak sA (ad [0] 1 rfl rfl)
  refine run ?_
  obtain rfl := aq h
  exact aQ rfl rfl (ad [] 1 rfl rfl) ⟨rfl, rfl⟩
 replace h := ai g27 h
 refine run ?_
 refine ay rfl (fun g34 => ?_) (fun g34 => ?_)
 ·replace h := ah g34 h
  refine run ?_
  obtain ⟨y35, hy35, h⟩ := aa h
  refine gD (am (ll hy35) C9 rfl (mem_cons (aj (i := 0) rfl rfl) ae) jT) ?_
  rintro _ _ ⟨_, ⟨rfl, rfl⟩, rfl⟩
  refine run ?_
  obtain rfl := aq h
  exact aQ rfl rfl (ad [] 1 rfl rfl) ⟨rfl, rfl⟩
 replace h := ai g34 h
 refine run ?_
 refine ay rfl (fun g36 => ?_) (fun g36 => ?_)
 ·replace h := ah g36 h
  refine run ?_
  refine gR (aL 0 rfl ao rfl Tryz.underlying25) ?_
  refine run ?_
  obtain ⟨b37, hb37, h⟩ := aa h
  refine aX 6 102 b37 ?_ ?_
  ·clear h
   refine aY 96 rfl (fun g37 => ?_) (fun g37 => ?_)
   ·have h := ah g37 hb37
    refine run ?_
    obtain ⟨x38, hx38, h⟩ := aa h
    obtain ⟨lx38, ux38, hx38⟩ := au hx38
    refine cY (aM 0 rfl ao rfl rfl Tryz.underlying25 bh lx38 ux38) rfl (bd g37 rfl) rfl ?_
    refine cY (wr 0 rfl ao rfl (dC lx38 ux38) kP) rfl (bd g37 rfl) rfl ?_
    refine cY (bK (u := iV x38.Kind) 0 rfl ao rfl hx38 eo (fun _ _ _ h => by rw [show _ = _ from h]; rfl)) rfl (bd g37 rfl) rfl ?_
    refine run ?_
    obtain rfl := aq h
    exact ak sA (ad [0] 1 rfl rfl)
   have h := ai g37 hb37
   refine run ?_
   obtain rfl := aq h
   exact ak sA (ad [0] 1 rfl rfl)
  refine run ?_
  obtain ⟨b39, hb39, h⟩ := aa h
  refine aX 4 107 b39 ?_ ?_
  ·clear h
   refine aY 103 rfl (fun g39 => ?_) (fun g39 => ?_)
   ·have h := ah g39 hb39
    refine run ?_
    obtain ⟨q40, h⟩ := ap h
    refine Hp 0 rfl (l := (1 : Int).toNat) (h := a1.length) q40.2.1 q40.2.2 ?_
    rintro A41 n41 c41 e41
    refine cY (CO 1 rfl e41 rfl Tryz.underlying25 bh rfl (by rw [Int.toNat_of_nonneg q40.1]; rfl) q40.2.1) rfl (bd g39 rfl) rfl ?_
    obtain ⟨y42, hy42, h⟩ := aa h
    refine dj (am (ll hy42) C9 rfl (mem_cons (aj (i := 0) rfl rfl) ae) jT) rfl (bd g39 rfl) rfl ?_
    rintro _ _ ⟨_, ⟨rfl, rfl⟩, rfl⟩
    refine run ?_
    obtain rfl := aq h
    exact ak sA (ad [1] 2 rfl rfl)
   have h := ai g39 hb39
   refine run ?_
   obtain rfl := aq h
   exact ak sA (ad [0] 1 rfl rfl)
  refine run ?_
  obtain rfl := aq h
  exact aQ rfl rfl (ad [] 1 rfl rfl) ⟨rfl, rfl⟩
 replace h := ai g36 h
 refine run ?_
 refine ay rfl (fun g43 => ?_) (fun g43 => ?_)
 ·replace h := ah g43 h
  refine run ?_
  refine gR (aL 0 rfl ao rfl Tryz.underlying25) ?_
  refine run ?_
  obtain ⟨b44, hb44, h⟩ := aa h
  refine aX 5 118 b44 ?_ ?_
  ·clear h
   refine aY 113 rfl (fun g44 => ?_) (fun g44 => ?_)
   ·have h := ah g44 hb44
    refine run ?_
    obtain ⟨x45, hx45, h⟩ := aa h
    obtain ⟨lx45, ux45, hx45⟩ := au hx45
    refine cY (aM 0 rfl ao rfl rfl Tryz.underlying25 bh lx45 ux45) rfl (bd g44 rfl) rfl ?_
    refine cY (bA (us := [iV x45.Kind, iV x45.N, .string x45.S]) 0 rfl ao rfl hx45 ca (fun _ _ _ h => by rw [show _ = _ from h]; rfl)) rfl (bd g44 rfl) rfl ?_
    obtain ⟨y46, hy46, h⟩ := aa h
    refine dj (am (fQ hy46) qS rfl (ae) eF) rfl (bd g44 rfl) rfl ?_
    rintro _ _ ⟨_, ⟨rfl, rfl⟩, rfl⟩
    refine run ?_
    obtain rfl := aq h
    exact ak sA (ad [0] 1 rfl rfl)
   have h := ai g44 hb44
   refine run ?_
   obtain rfl := aq h
   exact ak sA (ad [0] 1 rfl rfl)
  refine run ?_
  obtain rfl := aq h
  exact aQ rfl rfl (ad [] 1 rfl rfl) ⟨rfl, rfl⟩
 replace h := ai g43 h
 refine run ?_
 obtain rfl := aq h
 exact aQ rfl rfl (ad [] 1 rfl rfl) ⟨rfl, rfl⟩
theorem rh {r : Bool} : ∀ v post, ((fun (u : Value) (post : List Chunk) => u = .bool r ∧ post = [])) v post → ∀ c ∈ post, cZ c := by
 rintro _ _ ⟨rfl, rfl⟩; exact ae
def dV (N : Nat) (a0 : DCell) (x14 : Bool × DValue) : (Unit) → Option (Option Exit × Unit)
 |() => (o3 N x14.2).bind fun y17 => bif !y17 then (some (some .ret, ())) else (some (none, ()))
def dP (N : Nat) (a0 : DCell) : Option Bool :=
 (bif decide (a0.Kind < 1) then (some true) else (some (decide (11 < a0.Kind)))).bind fun b5 => (bif b5 then (some true) else (some (decide (a0.Shape < 0)))).bind fun b6 => (bif b6 then (some true) else (some (decide (a0.Flags < 0)))).bind fun b7 => (bif b7 then (some true) else (some (decide (63 < a0.Flags)))).bind fun b8 => (bif b8 then (some true) else ((bif !decide (a0.Age = 0) then (some (!decide (a0.Age = 1))) else (some false)).bind fun b10 => some b10)).bind fun b9 => bif b9 then (some false) else ((mP N a0).bind fun y12 => (i7 N a0 (cK (fun x st => dV N a0 x st)) (none, ())).bind fun y15 => oz y15.1 ((fq N a0).bind fun y19 => (bif y19 then ((fR N a0.Kind a0.More).bind fun y21 => some y21) else (some false)).bind fun b20 => some b20) (some false) (fun _ => none))
theorem fD {N : Nat} {a0 : DCell} {r : Bool} (h : dP N a0 = some r) : Okc Tryz.prog 53 [.agg #[iV a0.Kind, iV a0.Shape, iV a0.Flags, iV a0.Age, .slice A1 n1 c1, .slice A2 n2 c2]] ([av A1 n1 c1 a0.Slots, av A2 n2 c2 a0.More]) (fun u post => u = .bool r ∧ post = []) := by
 refine bN Tryz.func53 rfl rfl ?_
 simp only [bc]
 refine run ?_
 refine gD (bo rfl rfl) ?_
 rintro _ _ ⟨B3, rfl, rfl⟩
 refine gD (aJ Ae rfl) ?_
 rintro _ _ ⟨B4, rfl, rfl⟩
 refine run ?_
 refine aB ?_
 refine run ?_
 obtain ⟨b5, hb5, h⟩ := aa h
 refine aX 4 12 b5 ?_ ?_
 ·clear h
  refine aY 8 rfl (fun g5 => ?_) (fun g5 => ?_)
  ·have h := ah g5 hb5
   refine run ?_
   obtain rfl := aq h
   exact ak sA (ad [0, 1, 2, 3] 4 rfl rfl)
  have h := ai g5 hb5
  refine run ?_
  obtain rfl := aq h
  exact ak sA (ad [0, 1, 2, 3] 4 rfl rfl)
 refine run ?_
 obtain ⟨b6, hb6, h⟩ := aa h
 refine aX 4 17 b6 ?_ ?_
 ·clear h
  refine aY 13 rfl (fun g6 => ?_) (fun g6 => ?_)
  ·have h := ah g6 hb6
   refine run ?_
   obtain rfl := aq h
   exact ak sA (ad [0, 1, 2, 3] 4 rfl rfl)
  have h := ai g6 hb6
  refine run ?_
  obtain rfl := aq h
  exact ak sA (ad [0, 1, 2, 3] 4 rfl rfl)
 refine run ?_
 obtain ⟨b7, hb7, h⟩ := aa h
 refine aX 4 22 b7 ?_ ?_
 ·clear h
  refine aY 18 rfl (fun g7 => ?_) (fun g7 => ?_)
  ·have h := ah g7 hb7
   refine run ?_
   obtain rfl := aq h
   exact ak sA (ad [0, 1, 2, 3] 4 rfl rfl)
  have h := ai g7 hb7
  refine run ?_
  obtain rfl := aq h
  exact ak sA (ad [0, 1, 2, 3] 4 rfl rfl)
 refine run ?_
 obtain ⟨b8, hb8, h⟩ := aa h
 refine aX 4 27 b8 ?_ ?_
 ·clear h
  refine aY 23 rfl (fun g8 => ?_) (fun g8 => ?_)
  ·have h := ah g8 hb8
   refine run ?_
   obtain rfl := aq h
   exact ak sA (ad [0, 1, 2, 3] 4 rfl rfl)
  have h := ai g8 hb8
  refine run ?_
  obtain rfl := aq h
  exact ak sA (ad [0, 1, 2, 3] 4 rfl rfl)
 refine run ?_
 obtain ⟨b9, hb9, h⟩ := aa h
 refine aX 9 37 b9 ?_ ?_
 ·clear h
  refine aY 28 rfl (fun g9 => ?_) (fun g9 => ?_)
  ·have h := ah g9 hb9
   refine run ?_
   obtain rfl := aq h
   exact ak sA (ad [0, 1, 2, 3] 4 rfl rfl)
  have h := ai g9 hb9
  refine run ?_
  obtain ⟨b10, hb10, h⟩ := aa h
  refine aX 4 36 b10 ?_ ?_
  ·clear h
   refine aY 32 rfl (fun g10 => ?_) (fun g10 => ?_)
   ·have h := ah g10 hb10
    refine run ?_
    obtain rfl := aq h
    exact ak sA (ad [0, 1, 2, 3] 4 rfl rfl)
   have h := ai g10 hb10
   refine run ?_
   obtain rfl := aq h
   exact ak sA (ad [0, 1, 2, 3] 4 rfl rfl)
  refine run ?_
  obtain rfl := aq h
  exact ak sA (ad [0, 1, 2, 3] 4 rfl rfl)
 refine run ?_
 refine ay rfl (fun g11 => ?_) (fun g11 => ?_)
 ·replace h := ah g11 h
  refine run ?_
  refine gO (ar (us := [.bool false]) (cs' := [.bool false]) 0 rfl rfl rfl rfl vY rfl rfl rfl) ?_
  rintro _ _ rfl
  refine run ?_
  obtain rfl := aq h
  exact eP (rs := [.cell 2 4]) (vs := [.bool false]) rfl (.cons (kF 0 rfl rfl BV) .nil) rfl (ad [] 4 rfl rfl) ⟨rfl, rfl⟩
 replace h := ai g11 h
 refine run ?_
 refine aB ?_
 refine run ?_
 refine gR (aC (us := [iV a0.Kind, iV a0.Shape, iV a0.Flags, iV a0.Age, .slice A1 n1 c1, .slice A2 n2 c2]) 1 rfl rfl bu rfl) ?_
 obtain ⟨y12, hy12, h⟩ := aa h
 refine gD (am (uW hy12) Di rfl (mem_cons (aj (i := 2) rfl rfl) (mem_cons (aj (i := 3) rfl rfl) ae)) rO) ?_
 rintro _ _ ⟨_, ⟨B13, rfl, rfl⟩, rfl⟩
 refine nH ?_
 refine lN ?_
 refine dK ?_ cw (fO 0 rfl)
 obtain ⟨y15, hy15, h⟩ := aa h
 refine mZ (en := (fun x => [.bool x.1, .agg #[iV x.2.Kind, iV x.2.N, .string x.2.S]])) (fun x st => dV N a0 x st) (fun (st : Unit) (mz : Unit) => [av A1 n1 c1 a0.Slots, av A2 n2 c2 a0.More, ag B3 32 [iV a0.Kind, iV a0.Shape, iV a0.Flags, iV a0.Age, .slice A1 n1 c1, .slice A2 n2 c2], ag B4 4 [.bool false]]) [bU B13 32 [iV a0.Kind, iV a0.Shape, iV a0.Flags, iV a0.Age, .slice A1 n1 c1, .slice A2 n2 c2], av A1 n1 c1 a0.Slots, av A2 n2 c2 a0.More] (()) (()) rfl rfl Da rfl (fun _ => rfl) (fun l G hY => (qn hy15 hY).mono fun _ _ hh => hh.2) (be [0, 3, 4] [] [3, 4, 2, 1] 5 rfl) h ?_ ?_ ?_ ?_
 ·rintro l x14 _ je sr14 _ h
  replace h : dV N a0 x14 () = some (je, sr14) := h
  simp only [sd, List.zip_cons_cons, List.zip_nil_left, List.zip_nil_right, List.reverse_cons, List.reverse_nil, List.nil_append, List.cons_append]
  refine cx ?_
  refine gD (aJ f4 rfl) ?_
  rintro _ _ ⟨B16, rfl, rfl⟩
  refine gO (ar (us := [iV x14.2.Kind, iV x14.2.N, .string x14.2.S]) (cs' := [iV x14.2.Kind, iV x14.2.N, .string x14.2.S]) 0 rfl rfl rfl rfl bh rfl rfl rfl) ?_
  rintro _ _ rfl
  refine bC ([ag B16 38 [iV x14.2.Kind, iV x14.2.N, .string x14.2.S], av A1 n1 c1 a0.Slots, av A2 n2 c2 a0.More, ag B3 32 [iV a0.Kind, iV a0.Shape, iV a0.Flags, iV a0.Age, .slice A1 n1 c1, .slice A2 n2 c2], ag B4 4 [.bool false]]) rfl ?_
  refine run ?_
  refine gR (aC (us := [iV x14.2.Kind, iV x14.2.N, .string x14.2.S]) 0 rfl rfl ca rfl) ?_
  obtain ⟨y17, hy17, h⟩ := aa h
  refine gD (am (Bf hy17) G7 rfl (ae) xO) ?_
  rintro _ _ ⟨_, ⟨rfl, rfl⟩, rfl⟩
  refine run ?_
  refine ay rfl (fun g18 => ?_) (fun g18 => ?_)
  ·replace h := ah g18 h
   refine run ?_
   refine gO (ar (us := [.bool false]) (cs' := [.bool false]) 4 rfl rfl rfl rfl vY rfl rfl rfl) ?_
   rintro _ _ rfl
   refine run ?_
   obtain ⟨rfl, rfl⟩ := Prod.mk.inj (Option.some.inj h)
   exact CC ((ad [1, 2, 3, 4] 5 rfl rfl).trans (dF () rfl))
  replace h := ai g18 h
  refine run ?_
  obtain ⟨rfl, rfl⟩ := Prod.mk.inj (Option.some.inj h)
  exact ux ((ad [1, 2, 3, 4] 5 rfl rfl).trans (dF () rfl))
 ·rintro _ h
  refine jZ ([av A1 n1 c1 a0.Slots, av A2 n2 c2 a0.More, ag B3 32 [iV a0.Kind, iV a0.Shape, iV a0.Flags, iV a0.Age, .slice A1 n1 c1, .slice A2 n2 c2], ag B4 4 [.bool false]]) rfl ?_
  refine run ?_
  refine gR (aC (us := [iV a0.Kind, iV a0.Shape, iV a0.Flags, iV a0.Age, .slice A1 n1 c1, .slice A2 n2 c2]) 2 rfl rfl bu rfl) ?_
  obtain ⟨y19, hy19, h⟩ := aa h
  refine gD (am (sj hy19) G6 rfl (mem_cons (aj (i := 0) rfl rfl) (mem_cons (aj (i := 1) rfl rfl) ae)) qm) ?_
  rintro _ _ ⟨_, ⟨rfl, rfl⟩, rfl⟩
  refine run ?_
  obtain ⟨b20, hb20, h⟩ := aa h
  refine aX 6 53 b20 ?_ ?_
  ·clear h
   refine aY 47 rfl (fun g20 => ?_) (fun g20 => ?_)
   ·have h := ah g20 hb20
    refine run ?_
    obtain ⟨y21, hy21, h⟩ := aa h
    refine dj (am (tI hy21) G5 rfl (mem_cons (aj (i := 1) rfl rfl) ae) rh) rfl (bd g20 rfl) rfl ?_
    rintro _ _ ⟨_, ⟨rfl, rfl⟩, rfl⟩
    refine run ?_
    obtain rfl := aq h
    exact ak sA (ad [0, 1, 2, 3] 4 rfl rfl)
   have h := ai g20 hb20
   refine run ?_
   obtain rfl := aq h
   exact ak sA (ad [0, 1, 2, 3] 4 rfl rfl)
  refine gO (ar (us := [.bool b20]) (cs' := [.bool b20]) 3 rfl rfl rfl rfl vY rfl rfl rfl) ?_
  rintro _ _ rfl
  refine run ?_
  obtain rfl := aq h
  exact eP (rs := [.cell 2 4]) (vs := [.bool b20]) rfl (.cons (kF 3 rfl rfl BV) .nil) rfl (ad [] 4 rfl rfl) ⟨rfl, rfl⟩
 ·rintro _ h
  refine jZ ([av A1 n1 c1 a0.Slots, av A2 n2 c2 a0.More, ag B3 32 [iV a0.Kind, iV a0.Shape, iV a0.Flags, iV a0.Age, .slice A1 n1 c1, .slice A2 n2 c2], ag B4 4 [.bool false]]) rfl ?_
  refine run ?_
  obtain rfl := aq h
  exact eP (rs := [.cell 2 4]) (vs := [.bool false]) rfl (.cons (kF 3 rfl rfl BV) .nil) rfl (ad [] 4 rfl rfl) ⟨rfl, rfl⟩
 rintro i _ h
 exact aD h
theorem ee {r : Bool} : ∀ v post, ((fun (u : Value) (post : List Chunk) => u = .bool r ∧ post = [])) v post → ∀ c ∈ post, cZ c := by
 rintro _ _ ⟨rfl, rfl⟩; exact ae
def nX (N : Nat) (a0 : DCell) : Option Bool :=
 (bif decide (a0.Kind = 8) then ((dP N a0).bind fun y5 => some y5) else (some false)).bind fun b4 => some b4
theorem vU {N : Nat} {a0 : DCell} {r : Bool} (h : nX N a0 = some r) : Okc Tryz.prog 132 [.agg #[iV a0.Kind, iV a0.Shape, iV a0.Flags, iV a0.Age, .slice A1 n1 c1, .slice A2 n2 c2]] ([av A1 n1 c1 a0.Slots, av A2 n2 c2 a0.More]) (fun u post => u = .bool r ∧ post = []) := by
 refine bN Tryz.func132 rfl rfl ?_
 simp only [bc]
 refine run ?_
 refine gD (bo rfl rfl) ?_
 rintro _ _ ⟨B3, rfl, rfl⟩
 refine run ?_
 obtain ⟨b4, hb4, h⟩ := aa h
 refine aX 3 9 b4 ?_ ?_
 ·clear h
  refine aY 6 rfl (fun g4 => ?_) (fun g4 => ?_)
  ·have h := ah g4 hb4
   refine cY (aC (us := [iV a0.Kind, iV a0.Shape, iV a0.Flags, iV a0.Age, .slice A1 n1 c1, .slice A2 n2 c2]) 0 rfl rfl bu rfl) rfl (bd g4 rfl) rfl ?_
   obtain ⟨y5, hy5, h⟩ := aa h
   refine dj (am (fD hy5) sq rfl (mem_cons (aj (i := 1) rfl rfl) (mem_cons (aj (i := 2) rfl rfl) ae)) ee) rfl (bd g4 rfl) rfl ?_
   rintro _ _ ⟨_, ⟨rfl, rfl⟩, rfl⟩
   refine run ?_
   obtain rfl := aq h
   exact ak sA (ad [0, 1, 2] 3 rfl rfl)
  have h := ai g4 hb4
  refine run ?_
  obtain rfl := aq h
  exact ak sA (ad [0, 1, 2] 3 rfl rfl)
 refine run ?_
 obtain rfl := aq h
 exact aQ rfl rfl (ad [] 3 rfl rfl) ⟨rfl, rfl⟩
theorem sD {r : Bool} : ∀ v post, ((fun (u : Value) (post : List Chunk) => u = .bool r ∧ post = [])) v post → ∀ c ∈ post, cZ c := by
 rintro _ _ ⟨rfl, rfl⟩; exact ae
def weak_entries_c1_l4 (N : Nat) {σ : Type} (fy : (DValue × DValue) → σ → Option (Bool × σ)) (a1 : DCell) : Nat → Int → σ → Option σ
 | 0, _, _ => none
 | m4 + 1, p5, p6 => bM (in64 (p5 + 1)) (bif decide (p5 + 1 < (a1.More.length : Int)) then ((aG a1.More p5).bind fun x9 => bM (in64 (p5 + 1)) ((aG a1.More (p5 + 1)).bind fun x11 => (fy (x9, x11) p6).bind fun y12 => bif !y12.1 then (some y12.2) else (bM (in64 (p5 + 2)) ((weak_entries_c1_l4 N fy a1 m4) (p5 + 2) y12.2)))) else (some p6))
def eW (N : Nat) {σ : Type} (a1 : DCell) (fy : (DValue × DValue) → σ → Option (Bool × σ)) (s0 : σ) : Option σ :=
 weak_entries_c1_l4 N fy a1 N 0 s0
theorem mc {N : Nat} {σ : Type} {a1 : DCell} {fy : (DValue × DValue) → σ → Option (Bool × σ)} {s0 : σ} {r : σ} (h : eW N a1 fy s0 = some r) {l : Nat} {G : σ → List Chunk} (hY : nF Tryz.prog l G (fun x => [.agg #[iV x.1.Kind, iV x.1.N, .string x.1.S], .agg #[iV x.2.Kind, iV x.2.N, .string x.2.S]]) fy) : Okc Tryz.prog 198 [.func (.yield l) #[] #[], pV B1 0] (bU B1 32 [iV a1.Kind, iV a1.Shape, iV a1.Flags, iV a1.Age, .slice A2 n2 c2, .slice A3 n3 c3] :: av A2 n2 c2 a1.Slots :: av A3 n3 c3 a1.More :: (G s0)) (fun u post => u = .tuple #[] ∧ post = G r) := by
 refine bN Tryz.func198 rfl rfl ?_
 simp only [bc]
 refine run ?_
 refine bp (fun m s L => ∃ p5 p6, weak_entries_c1_l4 N fy a1 m p5 p6 = some r ∧ s = [(0, .func (.yield l) #[] #[]), (1, pV B1 0), (3, iV p5)] ∧ L = av A2 n2 c2 a1.Slots :: av A3 n3 c3 a1.More :: bU B1 32 [iV a1.Kind, iV a1.Shape, iV a1.Flags, iV a1.Age, .slice A2 n2 c2, .slice A3 n3 c3] :: (G p6)) N _ _ ⟨0, s0, h, rfl, rfl⟩ sA (ad [1, 2, 0] 3 rfl rfl) ?_
 rintro (_ | m4) _ _ ⟨p5, p6, h, rfl, rfl⟩
 ·exact aD h
 rw [weak_entries_c1_l4.eq_2] at h
 refine aB ?_
 refine run ?_
 obtain ⟨q7, h⟩ := ap h
 refine gE (aR rfl rfl q7.1 q7.2) ?_
 refine run ?_
 refine gR (ci 2 rfl rfl fe rfl) ?_
 refine gR (aL 1 rfl ao rfl Tryz.underlying25) ?_
 refine run ?_
 refine ay rfl (fun g8 => ?_) (fun g8 => ?_)
 ·replace h := ah g8 h
  refine run ?_
  refine aB ?_
  refine fG ?_
  refine aB ?_
  obtain ⟨x9, hx9, h⟩ := aa h
  obtain ⟨lx9, ux9, hx9⟩ := au hx9
  obtain ⟨q10, h⟩ := ap h
  obtain ⟨x11, hx11, h⟩ := aa h
  obtain ⟨lx11, ux11, hx11⟩ := au hx11
  refine dK (t := [(0, .func (.yield l) #[] #[]), (1, pV B1 0), (3, iV p5)]) ?_ fU (ab _)
  refine d9 (by kernel_rfl) 12 [] [0, 5, 11] [12, 13, 14, 15, 16, 17, 18, 19, 20, 21, 22, 23] [[], [], [1], [], [2, 3], [4], [], [6], [], [8], [7, 9], [10]] [aV (.func (.yield l) #[] #[]),
 aV (pV B1 5),
 aV (.slice A3 n3 c3),
 aV (iV p5),
 aV (cA (.slice A3 n3 c3) p5.toNat 3 0),
 aV (.agg #[iV x9.Kind, iV x9.N, .string x9.S]),
 aV (pV B1 5),
 aV (.slice A3 n3 c3),
 aV (iV p5),
 aV (iV (p5 + 1)),
 aV (cA (.slice A3 n3 c3) ((p5 + 1).toNat) 3 0),
 aV (.agg #[iV x11.Kind, iV x11.N, .string x11.S])] [] (ab _) (fM) (by kernel_rfl) rfl rfl ?_ ?_ ?_
  ·exact fL
  ·refine ac rfl ?_ ?_
   ·exact cc (bA (us := [iV x11.Kind, iV x11.N, .string x11.S]) 1 rfl ao rfl hx11 ca (fun _ _ _ h => by rw [show _ = _ from h]; rfl)) rfl (aA rfl (ab _))
   refine ac rfl ?_ ?_
   ·exact cc (aM 1 rfl ao rfl rfl Tryz.underlying25 bh lx11 ux11) rfl (aA rfl (ab _))
   refine ac rfl ?_ ?_
   ·exact aW (aR rfl rfl q10.1 q10.2) rfl (aA rfl (ab _))
   refine ac rfl ?_ ?_
   ·exact aW (az rfl) rfl (aA rfl (ab _))
   refine ac rfl ?_ ?_
   ·exact cc (ci 2 rfl rfl fe rfl) rfl (aA rfl (ab _))
   refine ac rfl ?_ ?_
   ·exact aW (cr rfl gn) rfl (aA rfl (ab _))
   refine ac rfl ?_ ?_
   ·exact cc (bA (us := [iV x9.Kind, iV x9.N, .string x9.S]) 1 rfl ao rfl hx9 ca (fun _ _ _ h => by rw [show _ = _ from h]; rfl)) rfl (aA rfl (ab _))
   refine ac rfl ?_ ?_
   ·exact cc (aM 1 rfl ao rfl rfl Tryz.underlying25 bh lx9 ux9) rfl (aA rfl (ab _))
   refine ac rfl ?_ ?_
   ·exact aW (az rfl) rfl (aA rfl (ab _))
   refine ac rfl ?_ ?_
   ·exact cc (ci 2 rfl rfl fe rfl) rfl (aA rfl (ab _))
   refine ac rfl ?_ ?_
   ·exact aW (cr rfl gn) rfl (aA rfl (ab _))
   refine ac rfl ?_ ?_
   ·exact aW (az rfl) rfl (aA rfl (ab _))
   exact cO
  refine ip (t := [(12, .func (.yield l) #[] #[]), (17, .agg #[iV x9.Kind, iV x9.N, .string x9.S]), (23, .agg #[iV x11.Kind, iV x11.N, .string x11.S]), (0, .func (.yield l) #[] #[]), (1, pV B1 0), (3, iV p5)]) (L' := av A2 n2 c2 a1.Slots :: av A3 n3 c3 a1.More :: bU B1 32 [iV a1.Kind, iV a1.Shape, iV a1.Flags, iV a1.Age, .slice A2 n2 c2, .slice A3 n3 c3] :: (G p6)) ?_ fU (ab _)
  obtain ⟨y12, hy12, h⟩ := aa h
  refine nG 12 rfl (by kernel_rfl) (qI (a := (x9, x11)) [av A2 n2 c2 a1.Slots, av A3 n3 c3 a1.More, bU B1 32 [iV a1.Kind, iV a1.Shape, iV a1.Flags, iV a1.Age, .slice A2 n2 c2, .slice A3 n3 c3]] hY hy12 rfl rfl) rfl rfl rfl ?_
  rintro _ _ ⟨rfl, rfl⟩
  refine mY 13 rfl (by kernel_rfl) (xh rfl) rfl rfl rfl ?_
  refine fT (by kernel_rfl) ?_
  refine lN ?_
  refine ay rfl (fun g13 => ?_) (fun g13 => ?_)
  ·replace h := ah g13 h
   refine run ?_
   obtain rfl := aq h
   exact yM rfl (ad [] 3 rfl rfl) ⟨rfl, rfl⟩
  replace h := ai g13 h
  refine run ?_
  obtain ⟨q14, h⟩ := ap h
  refine gE (aR rfl rfl q14.1 q14.2) ?_
  refine run ?_
  exact ⟨m4, _, _, Nat.lt_succ_self _, ⟨p5 + 2, y12.2, h, rfl, rfl⟩, sA, ad [0, 1, 2] 3 rfl rfl⟩
 replace h := ai g8 h
 refine run ?_
 obtain rfl := aq h
 exact jo rfl (ad [] 3 rfl rfl) ⟨rfl, rfl⟩
def gY (N : Nat) (a0 : DCell) : Option Unit :=
 some ()
theorem o7 {N : Nat} {a0 : DCell} {r : Unit} (h : gY N a0 = some r) : Okc Tryz.prog 179 [.agg #[iV a0.Kind, iV a0.Shape, iV a0.Flags, iV a0.Age, .slice A1 n1 c1, .slice A2 n2 c2]] ([av A1 n1 c1 a0.Slots, av A2 n2 c2 a0.More]) (fun u post => ∃ B900, u = .func (.func 198) #[] #[pV B900 0] ∧ post = [ag B900 32 [iV a0.Kind, iV a0.Shape, iV a0.Flags, iV a0.Age, .slice A1 n1 c1, .slice A2 n2 c2]]) := by
 refine bN Tryz.func179 rfl rfl ?_
 simp only [bc]
 refine run ?_
 refine gD (bo rfl rfl) ?_
 rintro _ _ ⟨B3, rfl, rfl⟩
 refine run ?_
 refine gE (dU rfl) ?_
 refine run ?_
 obtain rfl := aq h
 exact aQ rfl rfl (ad [0] 3 rfl rfl) ⟨_, rfl, rfl⟩
theorem nh {a0 : DCell} {A1 : Option Addr} {n1 : Nat} {c1 : Nat} {A2 : Option Addr} {n2 : Nat} {c2 : Nat} : ∀ v post, ((fun (u : Value) (post : List Chunk) => ∃ B900, u = .func (.func 198) #[] #[pV B900 0] ∧ post = [ag B900 32 [iV a0.Kind, iV a0.Shape, iV a0.Flags, iV a0.Age, .slice A1 n1 c1, .slice A2 n2 c2]])) v post → ∀ c ∈ post, cZ c := by
 rintro _ _ ⟨_, rfl, rfl⟩; exact mem_cons mI (ae)
def o9 (N : Nat) : Option Int :=
 some (-1)
def slices_Index_l3 (N : Nat) (a1 : Int) (a0 : (List Int)) : Nat → Int → Option Int
 | 0, _ => none
 | m3 + 1, p4 => bif decide (p4 < (a0.length : Int)) then ((aG a0 p4).bind fun x6 => bif decide (a1 = x6) then (some p4) else (bM (in64 (p4 + 1)) ((slices_Index_l3 N a1 a0 m3) (p4 + 1)))) else (o9 N)
def mg (N : Nat) (a0 : (List Int)) (a1 : Int) : Option Int :=
 slices_Index_l3 N a1 a0 N 0
theorem vc {N : Nat} {a0 : (List Int)} {a1 : Int} {r : Int} (h : mg N a0 a1 = some r) : Okc Tryz.prog 159 [.slice A1 n1 c1, iV a1] ([cm A1 n1 c1 a0]) (fun u post => u = iV r ∧ post = []) := by
 refine bN Tryz.func159 rfl rfl ?_
 simp only [bc]
 refine run ?_
 refine aS (fun s L => o9 N = some r ∧ s = [(4, iV 0)] ∧ L = []) ?_ ?_
 ·refine run ?_
  refine gR (aL 0 rfl ao rfl Tryz.underlying35) ?_
  refine run ?_
  refine bp (fun m s L => ∃ p4, slices_Index_l3 N a1 a0 m p4 = some r ∧ s = [(0, .slice A1 n1 c1), (1, iV a1), (4, iV 0), (7, iV (a0.length : Int)), (8, iV p4)] ∧ L = [cm A1 n1 c1 a0]) N _ _ ⟨0, h, rfl, rfl⟩ sA (ad [0] 1 rfl rfl) ?_
  rintro (_ | m3) _ _ ⟨p4, h, rfl, rfl⟩
  ·exact aD h
  rw [slices_Index_l3.eq_2] at h
  refine run ?_
  refine aB ?_
  refine ay rfl (fun g5 => ?_) (fun g5 => ?_)
  ·replace h := ah g5 h
   refine run ?_
   refine aB ?_
   refine run ?_
   obtain ⟨x6, hx6, h⟩ := aa h
   obtain ⟨lx6, ux6, hx6⟩ := au hx6
   refine gR (aM 0 rfl ao rfl rfl Tryz.underlying35 dD lx6 ux6) ?_
   refine gR (bK (u := iV x6) 0 rfl ao rfl hx6 eo (fun _ _ _ h => by rw [show _ = _ from h]; rfl)) ?_
   refine run ?_
   refine ay rfl (fun g7 => ?_) (fun g7 => ?_)
   ·replace h := ah g7 h
    refine run ?_
    obtain rfl := aq h
    exact aQ rfl rfl (ad [] 1 rfl rfl) ⟨rfl, rfl⟩
   replace h := ai g7 h
   refine run ?_
   obtain ⟨q8, h⟩ := ap h
   refine gE (aR rfl rfl q8.1 q8.2) ?_
   refine run ?_
   exact ⟨m3, _, _, Nat.lt_succ_self _, ⟨p4 + 1, h, rfl, rfl⟩, sA, ad [0] 1 rfl rfl⟩
  replace h := ai g5 h
  refine run ?_
  exact ⟨_, _, ⟨h, rfl, rfl⟩, sA, ad [] 1 rfl rfl⟩
 rintro _ _ ⟨h, rfl, rfl⟩
 refine run ?_
 obtain rfl := aq h
 exact aQ rfl rfl (ad [] 0 rfl rfl) ⟨rfl, rfl⟩
theorem sH {r : Int} : ∀ v post, ((fun (u : Value) (post : List Chunk) => u = iV r ∧ post = [])) v post → ∀ c ∈ post, cZ c := by
 rintro _ _ ⟨rfl, rfl⟩; exact ae
def dt (N : Nat) (a0 : (List Int)) (a1 : Int) : Option Bool :=
 (mg N a0 a1).bind fun y2 => some (decide (0 ≤ y2))
theorem gb {N : Nat} {a0 : (List Int)} {a1 : Int} {r : Bool} (h : dt N a0 a1 = some r) : Okc Tryz.prog 101 [.slice A1 n1 c1, iV a1] ([cm A1 n1 c1 a0]) (fun u post => u = .bool r ∧ post = []) := by
 refine bN Tryz.func101 rfl rfl ?_
 simp only [bc]
 refine run ?_
 obtain ⟨y2, hy2, h⟩ := aa h
 refine gD (am (vc hy2) GN rfl (mem_cons (aj (i := 0) rfl rfl) ae) sH) ?_
 rintro _ _ ⟨_, ⟨rfl, rfl⟩, rfl⟩
 refine run ?_
 obtain rfl := aq h
 exact aQ rfl rfl (ad [] 1 rfl rfl) ⟨rfl, rfl⟩
theorem eX {r : Bool} : ∀ v post, ((fun (u : Value) (post : List Chunk) => u = .bool r ∧ post = [])) v post → ∀ c ∈ post, cZ c := by
 rintro _ _ ⟨rfl, rfl⟩; exact ae
def eG (N : Nat) (a1 : (List Int)) (x12 : DValue × DValue) : ((List Int)) → Option (Option Exit × (List Int))
 | p13 => (bif decide (x12.2.Kind = 7) then (some true) else (some (decide (x12.2.Kind = 9)))).bind fun b18 => (bif b18 then ((dt N a1 x12.1.N).bind fun y20 => some y20) else (some false)).bind fun b19 => bif b19 then (bM (cD (p13.length + ([x12.2.N] : List Int).length)) (some (none, p13 ++ ([x12.2.N] : List Int)))) else (some (none, p13))
def jy (N : Nat) (a0 : DCell) (a1 : (List Int)) : Option (List Int) :=
 (nX N a0).bind fun y6 => bif !y6 then (some []) else ((gY N a0).bind fun y10 => (eW N a0 (cK (fun x st => eG N a1 x st)) (none, [])).bind fun y14 => oz y14.1 (some y14.2) none (fun _ => none))
theorem rk {N : Nat} {a0 : DCell} {a1 : (List Int)} {r : (List Int)} (h : jy N a0 a1 = some r) : Okc Tryz.prog 122 [.agg #[iV a0.Kind, iV a0.Shape, iV a0.Flags, iV a0.Age, .slice A1 n1 c1, .slice A2 n2 c2], .slice A3 n3 c3] ([av A1 n1 c1 a0.Slots, av A2 n2 c2 a0.More, cm A3 n3 c3 a1]) (fun u post => ∃ A0 n0 c0, u = .slice A0 n0 c0 ∧ post = [br A0 n0 c0 r]) := by
 refine bN Tryz.func122 rfl rfl ?_
 simp only [bc]
 refine run ?_
 refine gD (bo rfl rfl) ?_
 rintro _ _ ⟨B4, rfl, rfl⟩
 refine gD (bo rfl rfl) ?_
 rintro _ _ ⟨B5, rfl, rfl⟩
 refine run ?_
 refine aB ?_
 refine run ?_
 refine gR (aC (us := [iV a0.Kind, iV a0.Shape, iV a0.Flags, iV a0.Age, .slice A1 n1 c1, .slice A2 n2 c2]) 1 rfl rfl bu rfl) ?_
 obtain ⟨y6, hy6, h⟩ := aa h
 refine gD (am (vU hy6) De rfl (mem_cons (aj (i := 2) rfl rfl) (mem_cons (aj (i := 3) rfl rfl) ae)) sD) ?_
 rintro _ _ ⟨_, ⟨rfl, rfl⟩, rfl⟩
 refine run ?_
 refine ay rfl (fun g7 => ?_) (fun g7 => ?_)
 ·replace h := ah g7 h
  refine run ?_
  obtain rfl := aq h
  exact aQ rfl rfl ((cH (dS .i64) 3 _).trans (ad [0] 6 rfl rfl)) ⟨_, _, _, rfl, rfl⟩
 replace h := ai g7 h
 refine run ?_
 refine gD (aJ vP rfl) ?_
 rintro _ _ ⟨B9, rfl, rfl⟩
 refine run ?_
 refine aB ?_
 refine run ?_
 refine gR (aC (us := [iV a0.Kind, iV a0.Shape, iV a0.Flags, iV a0.Age, .slice A1 n1 c1, .slice A2 n2 c2]) 2 rfl rfl bu rfl) ?_
 obtain ⟨y10, hy10, h⟩ := aa h
 refine gD (am (o7 hy10) C8 rfl (mem_cons (aj (i := 3) rfl rfl) (mem_cons (aj (i := 4) rfl rfl) ae)) nh) ?_
 rintro _ _ ⟨_, ⟨B11, rfl, rfl⟩, rfl⟩
 refine nH ?_
 refine lN ?_
 refine dK ?_ cw (fO 0 rfl)
 obtain ⟨y14, hy14, h⟩ := aa h
 refine mZ (en := (fun x => [.agg #[iV x.1.Kind, iV x.1.N, .string x.1.S], .agg #[iV x.2.Kind, iV x.2.N, .string x.2.S]])) (fun x st => eG N a1 x st) (fun (st : (List Int)) (mz : ((Option Addr × Nat × Nat))) => [cm A3 n3 c3 a1, ag B5 35 [.slice A3 n3 c3], dz (dS .i64) 3 (.slice mz.1 mz.2.1 mz.2.2) st, ag B9 35 [.slice mz.1 mz.2.1 mz.2.2]]) [bU B11 32 [iV a0.Kind, iV a0.Shape, iV a0.Flags, iV a0.Age, .slice A1 n1 c1, .slice A2 n2 c2], av A1 n1 c1 a0.Slots, av A2 n2 c2 a0.More] ([]) ((none, 0, 0)) rfl rfl C6 rfl (fun _ => rfl) (fun l G hY => (mc hy14 hY).mono fun _ _ hh => hh.2) ((cH (dS .i64) 3 _).trans (be [1, 5, 6] [] [7, 3, 0, 2] 8 rfl)) h ?_ ?_ ?_ ?_
 ·rintro l x12 p13 je sr12 ⟨A13, n13, c13⟩ h
  replace h : eG N a1 x12 p13 = some (je, sr12) := h
  simp only [sd, List.zip_cons_cons, List.zip_nil_left, List.zip_nil_right, List.reverse_cons, List.reverse_nil, List.nil_append, List.cons_append]
  refine run ?_
  refine gD (aJ f4 rfl) ?_
  rintro _ _ ⟨B16, rfl, rfl⟩
  refine gO (ar (us := [iV x12.1.Kind, iV x12.1.N, .string x12.1.S]) (cs' := [iV x12.1.Kind, iV x12.1.N, .string x12.1.S]) 0 rfl rfl rfl rfl bh rfl rfl rfl) ?_
  rintro _ _ rfl
  refine run ?_
  refine gD (aJ f4 rfl) ?_
  rintro _ _ ⟨B17, rfl, rfl⟩
  refine gO (ar (us := [iV x12.2.Kind, iV x12.2.N, .string x12.2.S]) (cs' := [iV x12.2.Kind, iV x12.2.N, .string x12.2.S]) 0 rfl rfl rfl rfl bh rfl rfl rfl) ?_
  rintro _ _ rfl
  refine bC ([ag B17 38 [iV x12.2.Kind, iV x12.2.N, .string x12.2.S], ag B16 38 [iV x12.1.Kind, iV x12.1.N, .string x12.1.S], cm A3 n3 c3 a1, ag B5 35 [.slice A3 n3 c3], br A13 n13 c13 p13, ag B9 35 [.slice A13 n13 c13]]) rfl ?_
  refine run ?_
  obtain ⟨b18, hb18, h⟩ := aa h
  refine aX 4 22 b18 ?_ ?_
  ·clear h
   refine aY 18 rfl (fun g18 => ?_) (fun g18 => ?_)
   ·have h := ah g18 hb18
    refine run ?_
    obtain rfl := aq h
    exact ak sA (ad [0, 1, 2, 3, 4, 5] 6 rfl rfl)
   have h := ai g18 hb18
   refine run ?_
   obtain rfl := aq h
   exact ak sA (ad [0, 1, 2, 3, 4, 5] 6 rfl rfl)
  refine run ?_
  obtain ⟨b19, hb19, h⟩ := aa h
  refine aX 5 28 b19 ?_ ?_
  ·clear h
   refine aY 23 rfl (fun g19 => ?_) (fun g19 => ?_)
   ·have h := ah g19 hb19
    refine run ?_
    obtain ⟨y20, hy20, h⟩ := aa h
    refine dj (am (gb hy20) vI rfl (mem_cons (aj (i := 2) rfl rfl) ae) eX) rfl (bd g19 rfl) rfl ?_
    rintro _ _ ⟨_, ⟨rfl, rfl⟩, rfl⟩
    refine run ?_
    obtain rfl := aq h
    exact ak sA (ad [0, 1, 2, 3, 4, 5] 6 rfl rfl)
   have h := ai g19 hb19
   refine run ?_
   obtain rfl := aq h
   exact ak sA (ad [0, 1, 2, 3, 4, 5] 6 rfl rfl)
  refine run ?_
  refine ay rfl (fun g21 => ?_) (fun g21 => ?_)
  ·replace h := ah g21 h
   refine run ?_
   refine gD (bm (R := (dS .i64)) (vss := [[iV x12.2.N]]) (xs := [x12.2.N]) rfl (gG _) rfl rfl (fun _ _ hr => .cons rfl All2.nil)) ?_
   rintro _ _ ⟨A22, n22, c22, rfl, rfl⟩
   obtain ⟨q23, h⟩ := ap h
   refine gD (bF 5 0 rfl rfl aH rfl rfl Tryz.underlying35 Ac rfl rfl q23) ?_
   rintro _ _ ⟨A24, n24, c24, rfl, rfl⟩
   refine gO (ar (us := [.slice A24 n24 c24]) (cs' := [.slice A24 n24 c24]) 6 rfl rfl rfl rfl iK rfl rfl rfl) ?_
   rintro _ _ rfl
   refine run ?_
   obtain ⟨rfl, rfl⟩ := Prod.mk.inj (Option.some.inj h)
   exact ux ((ad [3, 4, 5, 6] 7 rfl rfl).trans (dF (A24, n24, c24) rfl))
  replace h := ai g21 h
  refine run ?_
  obtain ⟨rfl, rfl⟩ := Prod.mk.inj (Option.some.inj h)
  exact ux ((ad [2, 3, 4, 5] 6 rfl rfl).trans (dF (A13, n13, c13) rfl))
 ·rintro ⟨A13, n13, c13⟩ h
  refine jZ ([cm A3 n3 c3 a1, ag B5 35 [.slice A3 n3 c3], br A13 n13 c13 y14.2, ag B9 35 [.slice A13 n13 c13]]) rfl ?_
  refine run ?_
  obtain rfl := aq h
  exact aQ rfl rfl (ad [2] 4 rfl rfl) ⟨_, _, _, rfl, rfl⟩
 ·rintro ⟨A13, n13, c13⟩ h
  exact aD h
 rintro i ⟨A13, n13, c13⟩ h
 exact aD h
theorem o8 {r : (List Int)} : ∀ v post, ((fun (u : Value) (post : List Chunk) => ∃ A0 n0 c0, u = .slice A0 n0 c0 ∧ post = [br A0 n0 c0 r])) v post → ∀ c ∈ post, cZ c := by
 rintro _ _ ⟨_, _, _, rfl, rfl⟩; exact mem_cons bS (ae)
def nk (N : Nat) (a0 : DRow) (p7 : (List DCell)) (p8 : (List DCell)) (p9 : (List Int)) (p10 : (List (Int × Unit))) (p11 : Int) : Option (Bool × DRow) :=
 some (decide ((a0.all_.length : Int) < (p9.length : Int)), (⟨(⟨p7, p8⟩ : DMemory), p9, p10, p11⟩ : DRow))
def gg (N : Nat) (kb13 : Int → (List DCell) → (List DCell) → (List Int) → (List (Int × Unit)) → Int → Option (Bool × DRow)) (a0 : DRow) (p14 : Int) (p22 : (List DCell)) (p23 : (List DCell)) (p24 : (List Int)) (p25 : (List (Int × Unit))) (p26 : Int) : Option (Bool × DRow) :=
 bM (in64 (p14 + 1)) (kb13 (p14 + 1) p22 p23 p24 p25 p26)
def reach_row_pass_l13 (N : Nat) (a0 : DRow) : Nat → Int → (List DCell) → (List DCell) → (List Int) → (List (Int × Unit)) → Int → Option (Bool × DRow)
 | 0, _, _, _, _, _, _ => none
 | m13 + 1, p14, p15, p16, p17, p18, p19 => bif decide (p14 < ((List.take a0.all_.length a0.all_).length : Int)) then ((aG (List.take a0.all_.length p17) p14).bind fun x27 => (eb N (⟨p15, p16⟩ : DMemory) x27).bind fun y28 => bif decide (y28.Kind = 8) then ((jy N y28 p17).bind fun y33 => (dk N (⟨(⟨p15, p16⟩ : DMemory), p17, p18, p19⟩ : DRow) y33).bind fun y35 => gg N (reach_row_pass_l13 N a0 m13) a0 p14 y35.m_.Young y35.m_.Old y35.all_ y35.met_ y35.done_) else (gg N (reach_row_pass_l13 N a0 m13) a0 p14 p15 p16 p17 p18 p19)) else (nk N a0 p15 p16 p17 p18 p19)
def fK (N : Nat) (a0 : DRow) : Option (Bool × DRow) :=
 reach_row_pass_l13 N a0 N 0 a0.m_.Young a0.m_.Old a0.all_ a0.met_ a0.done_
theorem sM {N : Nat} {a0 : DRow} {r : (Bool × DRow)} (h : fK N a0 = some r) : Okc Tryz.prog 67 [pV B1 0] ([aF A2 n2 c2 a0.m_.Young, aF A3 n3 c3 a0.m_.Old, ag B1 79 [.slice A2 n2 c2, .slice A3 n3 c3, .slice A4 n4 c4, .map (some M5), iV a0.done_], br A4 n4 c4 a0.all_, aN bQ rN M5 a0.met_]) (fun u post => ∃ A0 n0 c0 A1 n1 c1 A2 n2 c2 M3, u = .bool r.1 ∧ post = [ag B1 79 [.slice A0 n0 c0, .slice A1 n1 c1, .slice A2 n2 c2, .map (some M3), iV r.2.done_], aF A0 n0 c0 r.2.m_.Young, aF A1 n1 c1 r.2.m_.Old, br A2 n2 c2 r.2.all_, aN bQ rN M3 r.2.met_]) := by
 refine bN Tryz.func67 rfl rfl ?_
 simp only [bc]
 refine run ?_
 refine gR (aL 3 rfl aH rfl Tryz.underlying35) ?_
 refine run ?_
 refine aS (fun s L => ∃ p7 p8 p9 p10 p11 A7 n7 c7 A8 n8 c8 A9 n9 c9 M10, nk N a0 p7 p8 p9 p10 p11 = some r ∧ s = [(0, pV B1 0), (2, .bool false), (3, iV (a0.all_.length : Int))] ∧ L = [aF A7 n7 c7 p7, aF A8 n8 c8 p8, br A9 n9 c9 p9, aN bQ rN M10 p10, ag B1 79 [.slice A7 n7 c7, .slice A8 n8 c8, .slice A9 n9 c9, .map (some M10), iV p11]]) ?_ ?_
 ·refine Iw ?_
  refine Ix ?_
  refine pv (Fu 3 rfl) ?_
  refine gD (Gh (n := a0.all_.length) 3 rfl rfl Tryz.underlying35 dD rfl rfl rfl (Nat.le_refl _)) ?_
  rintro _ _ ⟨A12, rfl, rfl⟩
  refine gR (aL 3 rfl xj rfl Tryz.underlying35) ?_
  refine run ?_
  refine bp (fun m s L => ∃ p14 p15 p16 p17 p18 p19 A15 n15 c15 A16 n16 c16 A17 n17 c17 M18, reach_row_pass_l13 N a0 m p14 p15 p16 p17 p18 p19 = some r ∧ s = [(0, pV B1 0), (2, .bool false), (3, iV (a0.all_.length : Int)), (18, .slice A12 a0.all_.length a0.all_.length), (19, iV ((List.take a0.all_.length a0.all_).length : Int)), (20, iV p14)] ∧ L = [aF A15 n15 c15 p15, aF A16 n16 c16 p16, gC (dS .i64) 3 (.slice A17 n17 c17) p17 (.slice A12 a0.all_.length a0.all_.length) a0.all_.length, aN bQ rN M18 p18, ag B1 79 [.slice A15 n15 c15, .slice A16 n16 c16, .slice A17 n17 c17, .map (some M18), iV p19]]) N _ _ ⟨0, a0.m_.Young, a0.m_.Old, a0.all_, a0.met_, a0.done_, A2, n2, c2, A3, n3, c3, A4, n4, c4, M5, h, rfl, rfl⟩ sA (ad [0, 1, 3, 4, 2] 5 rfl rfl) ?_
  rintro (_ | m13) _ _ ⟨p14, p15, p16, p17, p18, p19, A15, n15, c15, A16, n16, c16, A17, n17, c17, M18, h, rfl, rfl⟩
  ·exact aD h
  rw [reach_row_pass_l13.eq_2] at h
  refine run ?_
  refine aB ?_
  refine ay rfl (fun g20 => ?_) (fun g20 => ?_)
  ·replace h := ah g20 h
   refine run ?_
   refine aS (fun s L => ∃ p22 p23 p24 p25 p26 A22 n22 c22 A23 n23 c23 A24 n24 c24 M25, gg N (reach_row_pass_l13 N a0 m13) a0 p14 p22 p23 p24 p25 p26 = some r ∧ s = [(0, pV B1 0), (2, .bool false), (3, iV (a0.all_.length : Int)), (18, .slice A12 a0.all_.length a0.all_.length), (19, iV ((List.take a0.all_.length a0.all_).length : Int)), (20, iV p14)] ∧ L = [aF A22 n22 c22 p22, aF A23 n23 c23 p23, gC (dS .i64) 3 (.slice A24 n24 c24) p24 (.slice A12 a0.all_.length a0.all_.length) a0.all_.length, aN bQ rN M25 p25, ag B1 79 [.slice A22 n22 c22, .slice A23 n23 c23, .slice A24 n24 c24, .map (some M25), iV p26]]) ?_ ?_
   ·refine run ?_
    obtain ⟨x27, hx27, h⟩ := aa h
    obtain ⟨lx27, ux27, hx27⟩ := au hx27
    refine gR (aM 2 rfl xj rfl rfl Tryz.underlying35 dD lx27 ux27) ?_
    refine gR (bK (u := iV x27) 2 rfl xj rfl hx27 eo (fun _ _ _ h => by rw [show _ = _ from h]; rfl)) ?_
    refine run ?_
    refine gR (aC (us := [.slice A15 n15 c15, .slice A16 n16 c16]) 4 rfl rfl cN rfl) ?_
    refine run ?_
    obtain ⟨y28, hy28, h⟩ := aa h
    refine gD (am (kY hy28) xq rfl (mem_cons (aj (i := 0) rfl rfl) (mem_cons (aj (i := 1) rfl rfl) ae)) iU) ?_
    rintro _ _ ⟨_, ⟨A29, n29, c29, A30, n30, c30, rfl, rfl⟩, rfl⟩
    refine gD (aJ dR rfl) ?_
    rintro _ _ ⟨B31, rfl, rfl⟩
    refine gO (ar (us := [iV y28.Kind, iV y28.Shape, iV y28.Flags, iV y28.Age, .slice A29 n29 c29, .slice A30 n30 c30]) (cs' := [iV y28.Kind, iV y28.Shape, iV y28.Flags, iV y28.Age, .slice A29 n29 c29, .slice A30 n30 c30]) 0 rfl rfl rfl rfl bz rfl rfl rfl) ?_
    rintro _ _ rfl
    refine bC ([ag B31 32 [iV y28.Kind, iV y28.Shape, iV y28.Flags, iV y28.Age, .slice A29 n29 c29, .slice A30 n30 c30], bD A29 n29 c29 y28.Slots, bD A30 n30 c30 y28.More, aF A15 n15 c15 p15, aF A16 n16 c16 p16, gC (dS .i64) 3 (.slice A17 n17 c17) p17 (.slice A12 a0.all_.length a0.all_.length) a0.all_.length, aN bQ rN M18 p18, ag B1 79 [.slice A15 n15 c15, .slice A16 n16 c16, .slice A17 n17 c17, .map (some M18), iV p19]]) rfl ?_
    refine run ?_
    refine ay rfl (fun g32 => ?_) (fun g32 => ?_)
    ·replace h := ah g32 h
     refine dK (t := [(0, pV B1 0), (2, .bool false), (3, iV (a0.all_.length : Int)), (6, pV B31 0), (18, .slice A12 a0.all_.length a0.all_.length), (19, iV ((List.take a0.all_.length a0.all_).length : Int)), (20, iV p14)]) ?_ fU (ab _)
     refine d9 (by kernel_rfl) 6 [0] [0, 1, 5] [33, 34, 35, 36, 37, 38] [[], [], [], [2], [3], [4]] [aV (pV B1 0),
 aV (.agg #[iV y28.Kind, iV y28.Shape, iV y28.Flags, iV y28.Age, .slice A29 n29 c29, .slice A30 n30 c30]),
 aV (pV B1 0),
 aV (pV B1 0),
 aV (pV B1 2),
 aV (.slice A17 n17 c17)] [] (ab _) (iz rfl fM) (by kernel_rfl) rfl rfl ?_ ?_ ?_
     ·refine iy rfl ?_ ?_
      ·exact oE (az rfl) rfl (aA rfl (ab _))
      exact fL
     ·refine ac rfl ?_ ?_
      ·exact cc (aO 7 rfl rfl dE rfl) rfl (aA rfl (ab _))
      refine ac rfl ?_ ?_
      ·exact aW (cr rfl vD) rfl (aA rfl (ab _))
      refine ac rfl ?_ ?_
      ·exact aW (aZ rfl) rfl (aA rfl (ab _))
      refine ac rfl ?_ ?_
      ·exact aW (az rfl) rfl (aA rfl (ab _))
      refine ac rfl ?_ ?_
      ·exact cc (aC (us := [iV y28.Kind, iV y28.Shape, iV y28.Flags, iV y28.Age, .slice A29 n29 c29, .slice A30 n30 c30]) 0 rfl rfl bu rfl) rfl (aA rfl (ab _))
      refine ac rfl ?_ ?_
      ·exact aW (az rfl) rfl (aA rfl (ab _))
      exact cO
     refine ip (t := [(33, pV B1 0), (34, .agg #[iV y28.Kind, iV y28.Shape, iV y28.Flags, iV y28.Age, .slice A29 n29 c29, .slice A30 n30 c30]), (38, .slice A17 n17 c17), (0, pV B1 0), (2, .bool false), (3, iV (a0.all_.length : Int)), (6, pV B31 0), (18, .slice A12 a0.all_.length a0.all_.length), (19, iV ((List.take a0.all_.length a0.all_).length : Int)), (20, iV p14)]) (L' := [ag B31 32 [iV y28.Kind, iV y28.Shape, iV y28.Flags, iV y28.Age, .slice A29 n29 c29, .slice A30 n30 c30], bD A29 n29 c29 y28.Slots, bD A30 n30 c30 y28.More, aF A15 n15 c15 p15, aF A16 n16 c16 p16, gC (dS .i64) 3 (.slice A17 n17 c17) p17 (.slice A12 a0.all_.length a0.all_.length) a0.all_.length, aN bQ rN M18 p18, ag B1 79 [.slice A15 n15 c15, .slice A16 n16 c16, .slice A17 n17 c17, .map (some M18), iV p19]]) ?_ fU (ab _)
     obtain ⟨y33, hy33, h⟩ := aa h
     refine nG 6 rfl (by kernel_rfl) (am (rk hy33) Dg rfl (mem_cons (aK (i := 1) rfl) (mem_cons (aK (i := 2) rfl) (mem_cons (DW (i := 5) rfl) ae))) o8) rfl rfl rfl ?_
     rintro _ _ ⟨_, ⟨A34, n34, c34, rfl, rfl⟩, rfl⟩
     refine ip ?_ cw (bV 0 rfl)
     obtain ⟨y35, hy35, h⟩ := aa h
     refine nG 7 rfl (by kernel_rfl) (bH (rY hy35) zU rfl (be [4, 5, 0] [8, 6, 7] [0, 1, 2, 3, 4, 5] 9 rfl)) rfl rfl rfl ?_
     rintro _ _ ⟨_, ⟨A36, n36, c36, A37, n37, c37, A38, n38, c38, M39, rfl, rfl⟩, rfl⟩
     refine fT (by kernel_rfl) ?_
     refine run ?_
     exact ⟨_, _, ⟨y35.m_.Young, y35.m_.Old, y35.all_, y35.met_, y35.done_, A36, n36, c36, A37, n37, c37, A38, n38, c38, M39, h, rfl, rfl⟩, sA, ad [1, 2, 3, 4, 0] 11 rfl rfl⟩
    replace h := ai g32 h
    refine run ?_
    exact ⟨_, _, ⟨p15, p16, p17, p18, p19, A15, n15, c15, A16, n16, c16, A17, n17, c17, M18, h, rfl, rfl⟩, sA, ad [3, 4, 5, 6, 7] 8 rfl rfl⟩
   rintro _ _ ⟨p22, p23, p24, p25, p26, A22, n22, c22, A23, n23, c23, A24, n24, c24, M25, h, rfl, rfl⟩
   refine cx ?_
   obtain ⟨q40, h⟩ := ap h
   refine gE (aR rfl rfl q40.1 q40.2) ?_
   refine run ?_
   exact ⟨m13, _, _, Nat.lt_succ_self _, ⟨p14 + 1, p22, p23, p24, p25, p26, A22, n22, c22, A23, n23, c23, A24, n24, c24, M25, h, rfl, rfl⟩, sA, ad [0, 1, 2, 3, 4] 5 rfl rfl⟩
  replace h := ai g20 h
  refine run ?_
  exact ⟨_, _, ⟨p15, p16, p17, p18, p19, A15, n15, c15, A16, n16, c16, A17, n17, c17, M18, h, rfl, rfl⟩, sA, (Eb 2 rfl).trans (ad [0, 1, 2, 3, 4] 5 rfl rfl)⟩
 rintro _ _ ⟨p7, p8, p9, p10, p11, A7, n7, c7, A8, n8, c8, A9, n9, c9, M10, h, rfl, rfl⟩
 refine run ?_
 refine gR (aL 2 rfl aH rfl Tryz.underlying35) ?_
 refine run ?_
 obtain rfl := aq h
 exact aQ rfl rfl (ad [4, 0, 1, 2, 3] 5 rfl rfl) ⟨_, _, _, _, _, _, _, _, _, _, rfl, rfl⟩
def lz (N : Nat) (p12 : (List DCell)) (p13 : (List DCell)) (p14 : (List Int)) (p15 : (List (Int × Unit))) (p16 : Int) : Option (List Int) :=
 some p14
def reach_Order_l17 (N : Nat) : Nat → (List DCell) → (List DCell) → (List Int) → (List (Int × Unit)) → Int → Option (List Int)
 | 0, _, _, _, _, _ => none
 | m17 + 1, p18, p19, p20, p21, p22 => (fK N (⟨(⟨p18, p19⟩ : DMemory), p20, p21, p22⟩ : DRow)).bind fun y23 => bif y23.1 then ((ei N y23.2).bind fun y29 => (reach_Order_l17 N m17) y29.m_.Young y29.m_.Old y29.all_ y29.met_ y29.done_) else (lz N y23.2.m_.Young y23.2.m_.Old y23.2.all_ y23.2.met_ y23.2.done_)
def co (N : Nat) (a0 : DMemory) (a1 : (List DValue)) : Option (List Int) :=
 (iT N a0 a1).bind fun y5 => reach_Order_l17 N N y5.m_.Young y5.m_.Old y5.all_ y5.met_ y5.done_
theorem mo {N : Nat} {a0 : DMemory} {a1 : (List DValue)} {r : (List Int)} (h : co N a0 a1 = some r) : Okc Tryz.prog 25 [.agg #[.slice A1 n1 c1, .slice A2 n2 c2], .slice A3 n3 c3] ([aF A1 n1 c1 a0.Young, aF A2 n2 c2 a0.Old, av A3 n3 c3 a1]) (fun u post => ∃ A0 n0 c0, u = .slice A0 n0 c0 ∧ post = [br A0 n0 c0 r]) := by
 refine bN Tryz.func25 rfl rfl ?_
 simp only [bc]
 refine run ?_
 refine gD (bo rfl rfl) ?_
 rintro _ _ ⟨B4, rfl, rfl⟩
 refine run ?_
 refine gR (aC (us := [.slice A1 n1 c1, .slice A2 n2 c2]) 0 rfl rfl cN rfl) ?_
 refine run ?_
 obtain ⟨y5, hy5, h⟩ := aa h
 refine gD (bH (wk hy5) HN rfl (be [1, 2, 3] [] [0, 1, 2, 3] 4 rfl)) ?_
 rintro _ _ ⟨_, ⟨B6, A7, n7, c7, A8, n8, c8, A9, n9, c9, M10, rfl, rfl⟩, rfl⟩
 refine run ?_
 refine aS (fun s L => ∃ p12 p13 p14 p15 p16 A12 n12 c12 A13 n13 c13 A14 n14 c14 M15, lz N p12 p13 p14 p15 p16 = some r ∧ s = [(4, .slice none 0 0), (5, pV B6 0)] ∧ L = [aF A12 n12 c12 p12, aF A13 n13 c13 p13, br A14 n14 c14 p14, aN bQ rN M15 p15, ag B6 79 [.slice A12 n12 c12, .slice A13 n13 c13, .slice A14 n14 c14, .map (some M15), iV p16]]) ?_ ?_
 ·refine fG ?_
  refine bp (fun m s L => ∃ p18 p19 p20 p21 p22 A18 n18 c18 A19 n19 c19 A20 n20 c20 M21, reach_Order_l17 N m p18 p19 p20 p21 p22 = some r ∧ s = [(4, .slice none 0 0), (5, pV B6 0)] ∧ L = [aF A18 n18 c18 p18, aF A19 n19 c19 p19, br A20 n20 c20 p20, aN bQ rN M21 p21, ag B6 79 [.slice A18 n18 c18, .slice A19 n19 c19, .slice A20 n20 c20, .map (some M21), iV p22]]) N _ _ ⟨y5.m_.Young, y5.m_.Old, y5.all_, y5.met_, y5.done_, A7, n7, c7, A8, n8, c8, A9, n9, c9, M10, h, rfl, rfl⟩ sA (ad [1, 2, 3, 4, 0] 9 rfl rfl) ?_
  rintro (_ | m17) _ _ ⟨p18, p19, p20, p21, p22, A18, n18, c18, A19, n19, c19, A20, n20, c20, M21, h, rfl, rfl⟩
  ·exact aD h
  rw [reach_Order_l17.eq_2] at h
  refine aB ?_
  refine run ?_
  obtain ⟨y23, hy23, h⟩ := aa h
  refine gD (bH (sM hy23) HL rfl (be [0, 1] [4, 2, 3] [0, 1] 5 rfl)) ?_
  rintro _ _ ⟨_, ⟨A24, n24, c24, A25, n25, c25, A26, n26, c26, M27, rfl, rfl⟩, rfl⟩
  refine run ?_
  refine ay rfl (fun g28 => ?_) (fun g28 => ?_)
  ·replace h := ah g28 h
   refine run ?_
   obtain ⟨y29, hy29, h⟩ := aa h
   refine gD (bH (kX hy29) FD rfl (be [1, 2] [0, 3, 4] [1, 2, 5, 6] 7 rfl)) ?_
   rintro _ _ ⟨_, ⟨A30, n30, c30, A31, n31, c31, A32, n32, c32, M33, rfl, rfl⟩, rfl⟩
   refine bC ([ag B6 79 [.slice A30 n30 c30, .slice A31 n31 c31, .slice A32 n32 c32, .map (some M33), iV y29.done_], aF A30 n30 c30 y29.m_.Young, aF A31 n31 c31 y29.m_.Old, br A32 n32 c32 y29.all_, aN bQ rN M33 y29.met_, aF A24 n24 c24 y23.2.m_.Young, aF A25 n25 c25 y23.2.m_.Old, aF A18 n18 c18 p18, aF A19 n19 c19 p19]) rfl ?_
   refine run ?_
   exact ⟨m17, _, _, Nat.lt_succ_self _, ⟨y29.m_.Young, y29.m_.Old, y29.all_, y29.met_, y29.done_, A30, n30, c30, A31, n31, c31, A32, n32, c32, M33, h, rfl, rfl⟩, sA, ad [1, 2, 3, 4, 0] 9 rfl rfl⟩
  replace h := ai g28 h
  refine run ?_
  exact ⟨_, _, ⟨y23.2.m_.Young, y23.2.m_.Old, y23.2.all_, y23.2.met_, y23.2.done_, A24, n24, c24, A25, n25, c25, A26, n26, c26, M27, h, rfl, rfl⟩, sA, ad [1, 2, 3, 4, 0] 7 rfl rfl⟩
 rintro _ _ ⟨p12, p13, p14, p15, p16, A12, n12, c12, A13, n13, c13, A14, n14, c14, M15, h, rfl, rfl⟩
 refine run ?_
 obtain rfl := aq h
 exact aQ rfl rfl (ad [2] 5 rfl rfl) ⟨_, _, _, rfl, rfl⟩
theorem ki {r : (List Int)} : ∀ v post, ((fun (u : Value) (post : List Chunk) => ∃ A0 n0 c0, u = .slice A0 n0 c0 ∧ post = [br A0 n0 c0 r])) v post → ∀ c ∈ post, cZ c := by
 rintro _ _ ⟨_, _, _, rfl, rfl⟩; exact mem_cons bS (ae)
def uH (N : Nat) : Option Bool :=
 some true
def r19_Same_l5 (N : Nat) (a0 : (List Int)) (a1 : (List Int)) : Nat → Int → Option Bool
 | 0, _ => none
 | m5 + 1, p6 => bif decide (p6 < (a0.length : Int)) then ((aG a0 p6).bind fun x8 => (aG a1 p6).bind fun x9 => bif !decide (x8 = x9) then (some false) else (bM (in64 (p6 + 1)) ((r19_Same_l5 N a0 a1 m5) (p6 + 1)))) else (uH N)
def oO (N : Nat) (a0 : (List Int)) (a1 : (List Int)) : Option Bool :=
 bif !decide ((a0.length : Int) = (a1.length : Int)) then (some false) else (r19_Same_l5 N a0 a1 N 0)
theorem uG {N : Nat} {a0 : (List Int)} {a1 : (List Int)} {r : Bool} (h : oO N a0 a1 = some r) : Okc Tryz.prog 20 [.slice A1 n1 c1, .slice A2 n2 c2] ([cm A1 n1 c1 a0, cm A2 n2 c2 a1]) (fun u post => u = .bool r ∧ post = []) := by
 refine bN Tryz.func20 rfl rfl ?_
 simp only [bc]
 refine run ?_
 refine aB ?_
 refine run ?_
 refine gR (aL 0 rfl ao rfl Tryz.underlying35) ?_
 refine run ?_
 refine gR (aL 1 rfl ao rfl Tryz.underlying35) ?_
 refine run ?_
 refine ay rfl (fun g3 => ?_) (fun g3 => ?_)
 ·replace h := ah g3 h
  refine run ?_
  obtain rfl := aq h
  exact aQ rfl rfl (ad [] 2 rfl rfl) ⟨rfl, rfl⟩
 replace h := ai g3 h
 refine run ?_
 refine aS (fun s L => uH N = some r ∧ s = [(4, .bool false)] ∧ L = []) ?_ ?_
 ·refine run ?_
  refine bp (fun m s L => ∃ p6, r19_Same_l5 N a0 a1 m p6 = some r ∧ s = [(0, .slice A1 n1 c1), (1, .slice A2 n2 c2), (4, .bool false), (5, iV p6)] ∧ L = [cm A1 n1 c1 a0, cm A2 n2 c2 a1]) N _ _ ⟨0, h, rfl, rfl⟩ sA (ad [0, 1] 2 rfl rfl) ?_
  rintro (_ | m5) _ _ ⟨p6, h, rfl, rfl⟩
  ·exact aD h
  rw [r19_Same_l5.eq_2] at h
  refine aB ?_
  refine run ?_
  refine gR (aL 0 rfl ao rfl Tryz.underlying35) ?_
  refine run ?_
  refine ay rfl (fun g7 => ?_) (fun g7 => ?_)
  ·replace h := ah g7 h
   refine run ?_
   refine aB ?_
   refine fG ?_
   refine aB ?_
   refine dB (by kernel_rfl) _ (ab _) ?_
   refine aI 0 rfl (by kernel_rfl) (az rfl) rfl rfl ?_
   refine aI 1 rfl (by kernel_rfl) (az rfl) rfl rfl ?_
   obtain ⟨x8, hx8, h⟩ := aa h
   obtain ⟨lx8, ux8, hx8⟩ := au hx8
   refine bv 2 rfl (by kernel_rfl) (aM 0 rfl ao rfl rfl Tryz.underlying35 dD lx8 ux8) rfl rfl ?_
   refine bv 3 rfl (by kernel_rfl) (bK (u := iV x8) 0 rfl ao rfl hx8 eo (fun _ _ _ h => by rw [show _ = _ from h]; rfl)) rfl rfl ?_
   refine aI 4 rfl (by kernel_rfl) (az rfl) rfl rfl ?_
   refine aI 5 rfl (by kernel_rfl) (az rfl) rfl rfl ?_
   obtain ⟨x9, hx9, h⟩ := aa h
   obtain ⟨lx9, ux9, hx9⟩ := au hx9
   refine bv 6 rfl (by kernel_rfl) (aM 1 rfl ao rfl rfl Tryz.underlying35 dD lx9 ux9) rfl rfl ?_
   refine bv 7 rfl (by kernel_rfl) (bK (u := iV x9) 1 rfl ao rfl hx9 eo (fun _ _ _ h => by rw [show _ = _ from h]; rfl)) rfl rfl ?_
   refine aI 8 rfl (by kernel_rfl) (Fl rfl rfl) rfl rfl ?_
   refine dA (by kernel_rfl) ?_
   refine lN ?_
   refine ay rfl (fun g10 => ?_) (fun g10 => ?_)
   ·replace h := ah g10 h
    refine run ?_
    obtain rfl := aq h
    exact aQ rfl rfl (ad [] 2 rfl rfl) ⟨rfl, rfl⟩
   replace h := ai g10 h
   refine run ?_
   obtain ⟨q11, h⟩ := ap h
   refine gE (aR rfl rfl q11.1 q11.2) ?_
   refine run ?_
   exact ⟨m5, _, _, Nat.lt_succ_self _, ⟨p6 + 1, h, rfl, rfl⟩, sA, ad [0, 1] 2 rfl rfl⟩
  replace h := ai g7 h
  refine run ?_
  exact ⟨_, _, ⟨h, rfl, rfl⟩, sA, ad [] 2 rfl rfl⟩
 rintro _ _ ⟨h, rfl, rfl⟩
 refine run ?_
 obtain rfl := aq h
 exact aQ rfl rfl (ad [] 0 rfl rfl) ⟨rfl, rfl⟩
theorem ry {r : Bool} : ∀ v post, ((fun (u : Value) (post : List Chunk) => u = .bool r ∧ post = [])) v post → ∀ c ∈ post, cZ c := by
 rintro _ _ ⟨rfl, rfl⟩; exact ae
def fb (N : Nat) (a0 : DMemory) (a1 : (List DValue)) : Option (List Int) :=
 (co N a0 a1).bind fun y5 => (kE N y5).bind fun y7 => some y7
theorem ru {N : Nat} {a0 : DMemory} {a1 : (List DValue)} {r : (List Int)} (h : fb N a0 a1 = some r) : Okc Tryz.prog 23 [.agg #[.slice A1 n1 c1, .slice A2 n2 c2], .slice A3 n3 c3] ([aF A1 n1 c1 a0.Young, aF A2 n2 c2 a0.Old, av A3 n3 c3 a1]) (fun u post => ∃ A0 n0 c0, u = .slice A0 n0 c0 ∧ post = [br A0 n0 c0 r]) := by
 refine bN Tryz.func23 rfl rfl ?_
 simp only [bc]
 refine run ?_
 refine gD (bo rfl rfl) ?_
 rintro _ _ ⟨B4, rfl, rfl⟩
 refine run ?_
 refine gR (aC (us := [.slice A1 n1 c1, .slice A2 n2 c2]) 0 rfl rfl cN rfl) ?_
 refine run ?_
 obtain ⟨y5, hy5, h⟩ := aa h
 refine gD (am (mo hy5) Cw rfl (mem_cons (aj (i := 1) rfl rfl) (mem_cons (aj (i := 2) rfl rfl) (mem_cons (aj (i := 3) rfl rfl) ae))) ki) ?_
 rintro _ _ ⟨_, ⟨A6, n6, c6, rfl, rfl⟩, rfl⟩
 refine run ?_
 obtain ⟨y7, hy7, h⟩ := aa h
 refine gD (bH (vX hy7) HM rfl (be [] [0] [1, 2, 3, 4] 5 rfl)) ?_
 rintro _ _ ⟨_, ⟨rfl, rfl⟩, rfl⟩
 refine run ?_
 obtain rfl := aq h
 exact aQ rfl rfl (ad [0] 5 rfl rfl) ⟨_, _, _, rfl, rfl⟩
theorem pc {r : (List Int)} : ∀ v post, ((fun (u : Value) (post : List Chunk) => ∃ A0 n0 c0, u = .slice A0 n0 c0 ∧ post = [br A0 n0 c0 r])) v post → ∀ c ∈ post, cZ c := by
 rintro _ _ ⟨_, _, _, rfl, rfl⟩; exact mem_cons bS (ae)
end Go.Proofs.YtmbaennilhdieaaGreat
namespace Go.Proofs.YtmbaennilhdieaaGreat
variable {A1 A2 A3 A4 : Option Addr} {B1 B3 M5 c1 c2 c3 c4 n1 n2 n3 n4 : Nat}
open Go.RowKit Asn
set_option maxRecDepth 20000
def kl (N : Nat) (a0 : DMemory) (a1 : Int) : Option Bool :=
 bif decide (a1 < 1) then (some false) else (bif decide (a1.tmod 2 = 1) then (bM (in64 (a1 - 1)) (bM (in64 ((a1 - 1).tdiv 2)) (some (decide ((a1 - 1).tdiv 2 < (a0.Young.length : Int)))))) else (bM (in64 (a1 - 2)) (bM (in64 ((a1 - 2).tdiv 2)) (some (decide ((a1 - 2).tdiv 2 < (a0.Old.length : Int)))))))
def la (N : Nat) (a0 : DMemory) (a1 : Int) : Option DCell :=
 (kl N a0 a1).bind fun y5 => bif !y5 then (some (⟨0, 0, 0, 0, [], []⟩ : DCell)) else (bif decide (a1.tmod 2 = 1) then (bM (in64 (a1 - 1)) (bM (in64 ((a1 - 1).tdiv 2)) ((aG a0.Young ((a1 - 1).tdiv 2)).bind fun x12 => some x12))) else (bM (in64 (a1 - 2)) (bM (in64 ((a1 - 2).tdiv 2)) ((aG a0.Old ((a1 - 2).tdiv 2)).bind fun x18 => some x18))))
def ns (N : Nat) : Option Bool :=
 some true
def r15_SameValues_l5 (N : Nat) (a0 : (List DValue)) (a1 : (List DValue)) : Nat → Int → Option Bool
 | 0, _ => none
 | m5 + 1, p6 => bif decide (p6 < (a0.length : Int)) then ((aG a0 p6).bind fun x8 => (aG a1 p6).bind fun x9 => bif !decide (x8 = x9) then (some false) else (bM (in64 (p6 + 1)) ((r15_SameValues_l5 N a0 a1 m5) (p6 + 1)))) else (ns N)
def km (N : Nat) (a0 : (List DValue)) (a1 : (List DValue)) : Option Bool :=
 bif !decide ((a0.length : Int) = (a1.length : Int)) then (some false) else (r15_SameValues_l5 N a0 a1 N 0)
theorem sS {N : Nat} {a0 : (List DValue)} {a1 : (List DValue)} {r : Bool} (h : km N a0 a1 = some r) : Okc Tryz.prog 35 [.slice A1 n1 c1, .slice A2 n2 c2] ([av A1 n1 c1 a0, av A2 n2 c2 a1]) (fun u post => u = .bool r ∧ post = []) := by
 refine bN Tryz.func35 rfl rfl ?_
 simp only [bc]
 refine run ?_
 refine aB ?_
 refine run ?_
 refine gR (aL 0 rfl ao rfl Tryz.underlying25) ?_
 refine run ?_
 refine gR (aL 1 rfl ao rfl Tryz.underlying25) ?_
 refine run ?_
 refine ay rfl (fun g3 => ?_) (fun g3 => ?_)
 ·replace h := ah g3 h
  refine run ?_
  obtain rfl := aq h
  exact aQ rfl rfl (ad [] 2 rfl rfl) ⟨rfl, rfl⟩
 replace h := ai g3 h
 refine run ?_
 refine aS (fun s L => ns N = some r ∧ s = [(4, .bool false)] ∧ L = []) ?_ ?_
 ·refine run ?_
  refine bp (fun m s L => ∃ p6, r15_SameValues_l5 N a0 a1 m p6 = some r ∧ s = [(0, .slice A1 n1 c1), (1, .slice A2 n2 c2), (4, .bool false), (5, iV p6)] ∧ L = [av A1 n1 c1 a0, av A2 n2 c2 a1]) N _ _ ⟨0, h, rfl, rfl⟩ sA (ad [0, 1] 2 rfl rfl) ?_
  rintro (_ | m5) _ _ ⟨p6, h, rfl, rfl⟩
  ·exact aD h
  rw [r15_SameValues_l5.eq_2] at h
  refine aB ?_
  refine run ?_
  refine gR (aL 0 rfl ao rfl Tryz.underlying25) ?_
  refine run ?_
  refine ay rfl (fun g7 => ?_) (fun g7 => ?_)
  ·replace h := ah g7 h
   refine run ?_
   refine aB ?_
   refine fG ?_
   refine aB ?_
   refine dB (by kernel_rfl) _ (ab _) ?_
   refine aI 0 rfl (by kernel_rfl) (az rfl) rfl rfl ?_
   refine aI 1 rfl (by kernel_rfl) (az rfl) rfl rfl ?_
   obtain ⟨x8, hx8, h⟩ := aa h
   obtain ⟨lx8, ux8, hx8⟩ := au hx8
   refine bv 2 rfl (by kernel_rfl) (aM 0 rfl ao rfl rfl Tryz.underlying25 bh lx8 ux8) rfl rfl ?_
   refine bv 3 rfl (by kernel_rfl) (bA (us := [iV x8.Kind, iV x8.N, .string x8.S]) 0 rfl ao rfl hx8 ca (fun _ _ _ h => by rw [show _ = _ from h]; rfl)) rfl rfl ?_
   refine aI 4 rfl (by kernel_rfl) (az rfl) rfl rfl ?_
   refine aI 5 rfl (by kernel_rfl) (az rfl) rfl rfl ?_
   obtain ⟨x9, hx9, h⟩ := aa h
   obtain ⟨lx9, ux9, hx9⟩ := au hx9
   refine bv 6 rfl (by kernel_rfl) (aM 1 rfl ao rfl rfl Tryz.underlying25 bh lx9 ux9) rfl rfl ?_
   refine bv 7 rfl (by kernel_rfl) (bA (us := [iV x9.Kind, iV x9.N, .string x9.S]) 1 rfl ao rfl hx9 ca (fun _ _ _ h => by rw [show _ = _ from h]; rfl)) rfl rfl ?_
   refine aI 8 rfl (by kernel_rfl) (D6 (x := x8) (y := x9) rfl rfl) rfl rfl ?_
   refine dA (by kernel_rfl) ?_
   refine lN ?_
   refine ay rfl (fun g10 => ?_) (fun g10 => ?_)
   ·replace h := ah g10 h
    refine run ?_
    obtain rfl := aq h
    exact aQ rfl rfl (ad [] 2 rfl rfl) ⟨rfl, rfl⟩
   replace h := ai g10 h
   refine run ?_
   obtain ⟨q11, h⟩ := ap h
   refine gE (aR rfl rfl q11.1 q11.2) ?_
   refine run ?_
   exact ⟨m5, _, _, Nat.lt_succ_self _, ⟨p6 + 1, h, rfl, rfl⟩, sA, ad [0, 1] 2 rfl rfl⟩
  replace h := ai g7 h
  refine run ?_
  exact ⟨_, _, ⟨h, rfl, rfl⟩, sA, ad [] 2 rfl rfl⟩
 rintro _ _ ⟨h, rfl, rfl⟩
 refine run ?_
 obtain rfl := aq h
 exact aQ rfl rfl (ad [] 0 rfl rfl) ⟨rfl, rfl⟩
theorem rc {r : Bool} : ∀ v post, ((fun (u : Value) (post : List Chunk) => u = .bool r ∧ post = [])) v post → ∀ c ∈ post, cZ c := by
 rintro _ _ ⟨rfl, rfl⟩; exact ae
def dG (N : Nat) (a0 : Int) (a1 : DMemory) : Option Bool :=
 (dx N a1 a0).bind fun y4 => some (!y4)
theorem nl {N : Nat} {a0 : Int} {a1 : DMemory} {r : Bool} (h : dG N a0 a1 = some r) : Okc Tryz.prog 52 [iV a0, pV B1 0] ([bU B1 24 [.slice A2 n2 c2, .slice A3 n3 c3], aF A2 n2 c2 a1.Young, aF A3 n3 c3 a1.Old]) (fun u post => u = .bool r ∧ post = []) := by
 refine bN Tryz.func52 rfl rfl ?_
 simp only [bc]
 refine run ?_
 refine gR (om (us := [.slice A2 n2 c2, .slice A3 n3 c3]) 0 rfl rfl cN rfl) ?_
 refine run ?_
 obtain ⟨y4, hy4, h⟩ := aa h
 refine gD (am (dM hy4) nW rfl (mem_cons (aj (i := 1) rfl rfl) (mem_cons (aj (i := 2) rfl rfl) ae)) dh) ?_
 rintro _ _ ⟨_, ⟨rfl, rfl⟩, rfl⟩
 refine run ?_
 obtain rfl := aq h
 exact aQ rfl rfl (ad [] 3 rfl rfl) ⟨rfl, rfl⟩
def lJ (N : Nat) (ff : Int → Option Bool) : Option Int :=
 some (-1)
def slices_IndexFunc_l3 (N : Nat) (ff : Int → Option Bool) (a0 : (List Int)) : Nat → Int → Option Int
 | 0, _ => none
 | m3 + 1, p4 => bif decide (p4 < (a0.length : Int)) then ((aG a0 p4).bind fun x6 => (ff x6).bind fun y7 => bif y7 then (some p4) else (bM (in64 (p4 + 1)) ((slices_IndexFunc_l3 N ff a0 m3) (p4 + 1)))) else (lJ N ff)
def eI (N : Nat) (a0 : (List Int)) (ff : Int → Option Bool) : Option Int :=
 slices_IndexFunc_l3 N ff a0 N 0
theorem qX {N : Nat} {a0 : (List Int)} {ff : Int → Option Bool} {r : Int} (h : eI N a0 ff = some r) {vf : Value} {G : List Chunk} (hf : Bq Tryz.prog vf G (fun x => [iV x]) (fun r => .bool r) ff) : Okc Tryz.prog 113 [.slice A1 n1 c1, vf] (cm A1 n1 c1 a0 :: G) (fun u post => u = iV r ∧ post = []) := by
 refine bN Tryz.func113 rfl rfl ?_
 simp only [bc]
 refine run ?_
 refine aS (fun s L => lJ N ff = some r ∧ s = [(4, iV 0)] ∧ L = G) ?_ ?_
 ·refine run ?_
  refine gR (aL 0 rfl ao rfl Tryz.underlying35) ?_
  refine run ?_
  refine bp (fun m s L => ∃ p4, slices_IndexFunc_l3 N ff a0 m p4 = some r ∧ s = [(0, .slice A1 n1 c1), (1, vf), (4, iV 0), (7, iV (a0.length : Int)), (8, iV p4)] ∧ L = cm A1 n1 c1 a0 :: G) N _ _ ⟨0, h, rfl, rfl⟩ sA (ad [0] 1 rfl rfl) ?_
  rintro (_ | m3) _ _ ⟨p4, h, rfl, rfl⟩
  ·exact aD h
  rw [slices_IndexFunc_l3.eq_2] at h
  refine run ?_
  refine aB ?_
  refine ay rfl (fun g5 => ?_) (fun g5 => ?_)
  ·replace h := ah g5 h
   refine run ?_
   refine aB ?_
   refine run ?_
   obtain ⟨x6, hx6, h⟩ := aa h
   obtain ⟨lx6, ux6, hx6⟩ := au hx6
   refine gR (aM 0 rfl ao rfl rfl Tryz.underlying35 dD lx6 ux6) ?_
   refine gR (bK (u := iV x6) 0 rfl ao rfl hx6 eo (fun _ _ _ h => by rw [show _ = _ from h]; rfl)) ?_
   obtain ⟨y7, hy7, h⟩ := aa h
   refine gD (ta (a := x6) [cm A1 n1 c1 a0] hf hy7 rfl rfl) ?_
   rintro _ _ ⟨rfl, rfl⟩
   refine run ?_
   refine ay rfl (fun g8 => ?_) (fun g8 => ?_)
   ·replace h := ah g8 h
    refine run ?_
    obtain rfl := aq h
    exact aQ rfl rfl (kR [] 1 rfl rfl) ⟨rfl, rfl⟩
   replace h := ai g8 h
   refine run ?_
   obtain ⟨q9, h⟩ := ap h
   refine gE (aR rfl rfl q9.1 q9.2) ?_
   refine run ?_
   exact ⟨m3, _, _, Nat.lt_succ_self _, ⟨p4 + 1, h, rfl, rfl⟩, sA, ad [0] 1 rfl rfl⟩
  replace h := ai g5 h
  refine run ?_
  exact ⟨_, _, ⟨h, rfl, rfl⟩, sA, ad [] 1 rfl rfl⟩
 rintro _ _ ⟨h, rfl, rfl⟩
 refine run ?_
 obtain rfl := aq h
 exact aQ rfl rfl (kR [] 0 rfl rfl) ⟨rfl, rfl⟩
theorem pk {r : Int} : ∀ v post, ((fun (u : Value) (post : List Chunk) => u = iV r ∧ post = [])) v post → ∀ c ∈ post, cZ c := by
 rintro _ _ ⟨rfl, rfl⟩; exact ae
def bi (N : Nat) (a0 : (List Int)) (ff : Int → Option Bool) : Option Bool :=
 (eI N a0 ff).bind fun y2 => some (decide (0 ≤ y2))
theorem cC {N : Nat} {a0 : (List Int)} {ff : Int → Option Bool} {r : Bool} (h : bi N a0 ff = some r) {vf : Value} {G : List Chunk} (hf : Bq Tryz.prog vf G (fun x => [iV x]) (fun r => .bool r) ff) : Okc Tryz.prog 54 [.slice A1 n1 c1, vf] (cm A1 n1 c1 a0 :: G) (fun u post => u = .bool r ∧ post = []) := by
 refine bN Tryz.func54 rfl rfl ?_
 simp only [bc]
 refine run ?_
 obtain ⟨y2, hy2, h⟩ := aa h
 refine gD (am (qX hy2 hf) G4 rfl (mem_cons (aj (i := 0) rfl rfl) (um (E := [cm A1 n1 c1 a0]) hf.1)) pk) ?_
 rintro _ _ ⟨_, ⟨rfl, rfl⟩, rfl⟩
 refine run ?_
 obtain rfl := aq h
 exact aQ rfl rfl (kR [] 1 rfl rfl) ⟨rfl, rfl⟩
theorem cn {r : Bool} : ∀ v post, ((fun (u : Value) (post : List Chunk) => u = .bool r ∧ post = [])) v post → ∀ c ∈ post, cZ c := by
 rintro _ _ ⟨rfl, rfl⟩; exact ae
def fC (N : Nat) (a0 : DCell) : Option (List Int) :=
 (fS N a0 false).bind fun y4 => some y4
theorem jU {N : Nat} {a0 : DCell} {r : (List Int)} (h : fC N a0 = some r) : Okc Tryz.prog 56 [.agg #[iV a0.Kind, iV a0.Shape, iV a0.Flags, iV a0.Age, .slice A1 n1 c1, .slice A2 n2 c2]] ([av A1 n1 c1 a0.Slots, av A2 n2 c2 a0.More]) (fun u post => ∃ A0 n0 c0, u = .slice A0 n0 c0 ∧ post = [br A0 n0 c0 r]) := by
 refine bN Tryz.func56 rfl rfl ?_
 simp only [bc]
 refine run ?_
 refine gD (bo rfl rfl) ?_
 rintro _ _ ⟨B3, rfl, rfl⟩
 refine run ?_
 refine gR (aC (us := [iV a0.Kind, iV a0.Shape, iV a0.Flags, iV a0.Age, .slice A1 n1 c1, .slice A2 n2 c2]) 0 rfl rfl bu rfl) ?_
 obtain ⟨y4, hy4, h⟩ := aa h
 refine gD (am (nE hy4) Dh rfl (mem_cons (aj (i := 1) rfl rfl) (mem_cons (aj (i := 2) rfl rfl) ae)) lL) ?_
 rintro _ _ ⟨_, ⟨A5, n5, c5, rfl, rfl⟩, rfl⟩
 refine run ?_
 obtain rfl := aq h
 exact aQ rfl rfl (ad [0] 4 rfl rfl) ⟨_, _, _, rfl, rfl⟩
theorem iF {r : (List Int)} : ∀ v post, ((fun (u : Value) (post : List Chunk) => ∃ A0 n0 c0, u = .slice A0 n0 c0 ∧ post = [br A0 n0 c0 r])) v post → ∀ c ∈ post, cZ c := by
 rintro _ _ ⟨_, _, _, rfl, rfl⟩; exact mem_cons bS (ae)
def ly (N : Nat) : Option Bool :=
 some true
def lx (N : Nat) (kb20 : Int → Option Bool) (a0 : DMemory) (p21 : Int) : Option Bool :=
 bM (in64 (p21 + 1)) (kb20 (p21 + 1))
def reach_Right_l26 (N : Nat) (kb20 : Int → Option Bool) (a0 : DMemory) (p21 : Int) (x24 : (List DCell)) : Nat → Int → Option Bool
 | 0, _ => none
 | m26 + 1, p27 => bif decide (p27 < (x24.length : Int)) then ((aG x24 p27).bind fun x29 => (dP N x29).bind fun y34 => (bif !y34 then (some true) else ((dQ N x29).bind fun y36 => (bi N y36 (fun x => dG N x a0)).bind fun y38 => some y38)).bind fun b35 => (bif b35 then (some true) else ((fC N x29).bind fun y40 => (bi N y40 (fun x => dG N x a0)).bind fun y42 => some y42)).bind fun b39 => bif b39 then (some false) else (bM (in64 (p27 + 1)) ((reach_Right_l26 N kb20 a0 p21 x24 m26) (p27 + 1)))) else (lx N kb20 a0 p21)
def reach_Right_l20 (N : Nat) (a0 : DMemory) : Nat → Int → Option Bool
 | 0, _ => none
 | m20 + 1, p21 => bif decide (p21 < (([a0.Young, a0.Old] : List (List DCell)).length : Int)) then ((aG ([a0.Young, a0.Old] : List (List DCell)) p21).bind fun x24 => reach_Right_l26 N (reach_Right_l20 N a0 m20) a0 p21 x24 N 0) else (ly N)
def ie (N : Nat) (a0 : DMemory) : Option Bool :=
 reach_Right_l20 N a0 N 0
def reach_Right_l8 (N : Nat) (a1 : (List DValue)) (a0 : DMemory) : Nat → Int → Option Bool
 | 0, _ => none
 | m8 + 1, p9 => bif decide (p9 < (a1.length : Int)) then ((aG a1 p9).bind fun x11 => (cG N x11).bind fun y13 => (bif y13.2 then ((dx N a0 y13.1).bind fun y15 => some (!y15)) else (some false)).bind fun b14 => bif b14 then (some false) else (bM (in64 (p9 + 1)) ((reach_Right_l8 N a1 a0 m8) (p9 + 1)))) else (ie N a0)
def kG (N : Nat) (a0 : DMemory) (a1 : (List DValue)) : Option Bool :=
 bM (in64 ((a0.Young.length : Int) + (a0.Old.length : Int))) (bif decide (1048576 < (a0.Young.length : Int) + (a0.Old.length : Int)) then (some false) else (reach_Right_l8 N a1 a0 N 0))
set_option maxHeartbeats 4000000 in
theorem wl {N : Nat} {a0 : DMemory} {a1 : (List DValue)} {r : Bool} (h : kG N a0 a1 = some r) : Okc Tryz.prog 18 [.agg #[.slice A1 n1 c1, .slice A2 n2 c2], .slice A3 n3 c3] ([aF A1 n1 c1 a0.Young, aF A2 n2 c2 a0.Old, av A3 n3 c3 a1]) (fun u post => u = .bool r ∧ post = []) := by
 refine bN Tryz.func18 rfl rfl ?_
 simp only [bc]
 refine run ?_
 refine gD (bo rfl rfl) ?_
 rintro _ _ ⟨B4, rfl, rfl⟩
 refine run ?_
 refine aB ?_
 refine run ?_
 refine gR (aL 1 rfl ao rfl Tryz.underlying22) ?_
 refine run ?_
 refine gR (aL 2 rfl ao rfl Tryz.underlying22) ?_
 obtain ⟨q5, h⟩ := ap h
 refine gE (aR rfl rfl q5.1 q5.2) ?_
 refine run ?_
 refine ay rfl (fun g6 => ?_) (fun g6 => ?_)
 ·replace h := ah g6 h
  refine run ?_
  obtain rfl := aq h
  exact aQ rfl rfl (ad [] 4 rfl rfl) ⟨rfl, rfl⟩
 replace h := ai g6 h
 refine run ?_
 refine aS (fun s L => ie N a0 = some r ∧ s = [(2, pV B4 0), (4, .bool false)] ∧ L = [aF A1 n1 c1 a0.Young, aF A2 n2 c2 a0.Old, ag B4 24 [.slice A1 n1 c1, .slice A2 n2 c2]]) ?_ ?_
 ·refine run ?_
  refine gR (aL 3 rfl ao rfl Tryz.underlying25) ?_
  refine run ?_
  refine bp (fun m s L => ∃ p9, reach_Right_l8 N a1 a0 m p9 = some r ∧ s = [(2, pV B4 0), (4, .bool false), (22, .slice A3 n3 c3), (23, iV (a1.length : Int)), (24, iV p9)] ∧ L = [av A3 n3 c3 a1, aF A1 n1 c1 a0.Young, aF A2 n2 c2 a0.Old, ag B4 24 [.slice A1 n1 c1, .slice A2 n2 c2]]) N _ _ ⟨0, h, rfl, rfl⟩ sA (ad [3, 1, 2, 0] 4 rfl rfl) ?_
  rintro (_ | m8) _ _ ⟨p9, h, rfl, rfl⟩
  ·exact aD h
  rw [reach_Right_l8.eq_2] at h
  refine run ?_
  refine aB ?_
  refine ay rfl (fun g10 => ?_) (fun g10 => ?_)
  ·replace h := ah g10 h
   refine run ?_
   refine aB ?_
   refine run ?_
   obtain ⟨x11, hx11, h⟩ := aa h
   obtain ⟨lx11, ux11, hx11⟩ := au hx11
   refine gR (aM 0 rfl ao rfl rfl Tryz.underlying25 bh lx11 ux11) ?_
   refine gR (bA (us := [iV x11.Kind, iV x11.N, .string x11.S]) 0 rfl ao rfl hx11 ca (fun _ _ _ h => by rw [show _ = _ from h]; rfl)) ?_
   refine gD (aJ f4 rfl) ?_
   rintro _ _ ⟨B12, rfl, rfl⟩
   refine gO (ar (us := [iV x11.Kind, iV x11.N, .string x11.S]) (cs' := [iV x11.Kind, iV x11.N, .string x11.S]) 0 rfl rfl rfl rfl bh rfl rfl rfl) ?_
   rintro _ _ rfl
   refine run ?_
   refine gR (aC (us := [iV x11.Kind, iV x11.N, .string x11.S]) 0 rfl rfl ca rfl) ?_
   obtain ⟨y13, hy13, h⟩ := aa h
   refine gD (am (iw hy13) zQ rfl (ae) gi) ?_
   rintro _ _ ⟨_, ⟨rfl, rfl⟩, rfl⟩
   refine run ?_
   obtain ⟨b14, hb14, h⟩ := aa h
   refine aX 5 39 b14 ?_ ?_
   ·clear h
    refine aY 34 rfl (fun g14 => ?_) (fun g14 => ?_)
    ·have h := ah g14 hb14
     refine cY (aC (us := [.slice A1 n1 c1, .slice A2 n2 c2]) 4 rfl rfl cN rfl) rfl (bd g14 rfl) rfl ?_
     refine run ?_
     obtain ⟨y15, hy15, h⟩ := aa h
     refine dj (am (dM hy15) nW rfl (mem_cons (aj (i := 2) rfl rfl) (mem_cons (aj (i := 3) rfl rfl) ae)) dh) rfl (bd g14 rfl) rfl ?_
     rintro _ _ ⟨_, ⟨rfl, rfl⟩, rfl⟩
     refine run ?_
     obtain rfl := aq h
     exact ak sA (ad [0, 1, 2, 3, 4] 5 rfl rfl)
    have h := ai g14 hb14
    refine run ?_
    obtain rfl := aq h
    exact ak sA (ad [0, 1, 2, 3, 4] 5 rfl rfl)
   refine run ?_
   refine ay rfl (fun g16 => ?_) (fun g16 => ?_)
   ·replace h := ah g16 h
    refine run ?_
    obtain rfl := aq h
    exact aQ rfl rfl (ad [] 5 rfl rfl) ⟨rfl, rfl⟩
   replace h := ai g16 h
   refine run ?_
   obtain ⟨q17, h⟩ := ap h
   refine gE (aR rfl rfl q17.1 q17.2) ?_
   refine run ?_
   exact ⟨m8, _, _, Nat.lt_succ_self _, ⟨p9 + 1, h, rfl, rfl⟩, sA, ad [1, 2, 3, 4] 5 rfl rfl⟩
  replace h := ai g10 h
  refine run ?_
  exact ⟨_, _, ⟨h, rfl, rfl⟩, sA, ad [1, 2, 3] 4 rfl rfl⟩
 rintro _ _ ⟨h, rfl, rfl⟩
 refine run ?_
 refine gE (dU rfl) ?_
 refine run ?_
 refine aS (fun s L => ly N = some r ∧ s = [(4, .bool false)] ∧ L = []) ?_ ?_
 ·refine run ?_
  refine gD (bm (R := (Rep.sl bO)) (vss := [[.slice A1 n1 c1], [.slice A2 n2 c2]]) (xs := [a0.Young, a0.Old]) rfl (xr _ _ _ _ _ _) rfl rfl (fun _ _ hr => .cons (⟨_, rfl, hr 0 _ rfl rfl⟩) (.cons (⟨_, rfl, hr 1 _ rfl rfl⟩) All2.nil))) ?_
  rintro _ _ ⟨A19, n19, c19, rfl, rfl⟩
  refine gR (aL 0 rfl aH rfl Tryz.underlying66) ?_
  refine run ?_
  refine bp (fun m s L => ∃ p21, reach_Right_l20 N a0 m p21 = some r ∧ s = [(4, .bool false), (9, .func (.func 52) #[] #[pV B4 0]), (46, .slice A19 n19 c19), (47, iV (([a0.Young, a0.Old] : List (List DCell)).length : Int)), (48, iV p21)] ∧ L = [dz (Rep.sl bO) 22 (.slice A19 n19 c19) ([a0.Young, a0.Old] : List (List DCell)), aF A1 n1 c1 a0.Young, aF A2 n2 c2 a0.Old, ag B4 24 [.slice A1 n1 c1, .slice A2 n2 c2]]) N _ _ ⟨0, h, rfl, rfl⟩ sA (ad [0, 1, 2, 3] 4 rfl rfl) ?_
  rintro (_ | m20) _ _ ⟨p21, h, rfl, rfl⟩
  ·exact aD h
  rw [reach_Right_l20.eq_2] at h
  refine run ?_
  refine aB ?_
  refine ay rfl (fun g22 => ?_) (fun g22 => ?_)
  ·replace h := ah g22 h
   refine run ?_
   refine aS (fun s L => lx N (reach_Right_l20 N a0 m20) a0 p21 = some r ∧ s = [(4, .bool false), (9, .func (.func 52) #[] #[pV B4 0]), (46, .slice A19 n19 c19), (47, iV (([a0.Young, a0.Old] : List (List DCell)).length : Int)), (48, iV p21)] ∧ L = [dz (Rep.sl bO) 22 (.slice A19 n19 c19) ([a0.Young, a0.Old] : List (List DCell)), aF A1 n1 c1 a0.Young, aF A2 n2 c2 a0.Old, ag B4 24 [.slice A1 n1 c1, .slice A2 n2 c2]]) ?_ ?_
   ·refine run ?_
    obtain ⟨x24, hx24, h⟩ := aa h
    obtain ⟨lx24, ux24, hx24⟩ := au hx24
    refine gR (aM 0 rfl aH rfl rfl Tryz.underlying66 nL lx24 ux24) ?_
    refine gD (Ay (R' := bO) (ys := x24) 0 rfl aH rfl hx24 gU (fun _ _ _ h => by obtain ⟨u, e, k⟩ := h; exact ⟨u, by rw [e]; rfl, k⟩)) ?_
    rintro _ _ ⟨A25, n25, c25, rfl, rfl⟩
    refine run ?_
    refine gR (aL 0 rfl ao rfl Tryz.underlying22) ?_
    refine run ?_
    refine bp (fun m s L => ∃ p27, reach_Right_l26 N (reach_Right_l20 N a0 m20) a0 p21 x24 m p27 = some r ∧ s = [(4, .bool false), (9, .func (.func 52) #[] #[pV B4 0]), (46, .slice A19 n19 c19), (47, iV (([a0.Young, a0.Old] : List (List DCell)).length : Int)), (48, iV p21), (52, .slice A25 n25 c25), (53, iV (x24.length : Int)), (54, iV p27)] ∧ L = [dz (Rep.sl bO) 22 (.slice A19 n19 c19) ([a0.Young, a0.Old] : List (List DCell)), aF A25 n25 c25 x24, aF A1 n1 c1 a0.Young, aF A2 n2 c2 a0.Old, ag B4 24 [.slice A1 n1 c1, .slice A2 n2 c2]]) N _ _ ⟨0, h, rfl, rfl⟩ sA (ad [1, 0, 2, 3, 4] 5 rfl rfl) ?_
    rintro (_ | m26) _ _ ⟨p27, h, rfl, rfl⟩
    ·exact aD h
    rw [reach_Right_l26.eq_2] at h
    refine run ?_
    refine aB ?_
    refine ay rfl (fun g28 => ?_) (fun g28 => ?_)
    ·replace h := ah g28 h
     refine run ?_
     refine aB ?_
     refine run ?_
     obtain ⟨x29, hx29, h⟩ := aa h
     obtain ⟨lx29, ux29, hx29⟩ := au hx29
     refine gR (aM 1 rfl ao rfl rfl Tryz.underlying22 bz lx29 ux29) ?_
     refine va 1 rfl hx29 (db x29) ?_
     rintro _ _ ⟨A30, n30, c30, A31, n31, c31, rfl, rfl⟩
     refine gR (nm (us := [iV x29.Kind, iV x29.Shape, iV x29.Flags, iV x29.Age, .slice A30 n30 c30, .slice A31 n31 c31]) 0 rfl rfl bu rfl) ?_
     refine gD (aJ dR rfl) ?_
     rintro _ _ ⟨B33, rfl, rfl⟩
     refine gO (ar (us := [iV x29.Kind, iV x29.Shape, iV x29.Flags, iV x29.Age, .slice A30 n30 c30, .slice A31 n31 c31]) (cs' := [iV x29.Kind, iV x29.Shape, iV x29.Flags, iV x29.Age, .slice A30 n30 c30, .slice A31 n31 c31]) 0 rfl rfl rfl rfl bz rfl rfl rfl) ?_
     rintro _ _ rfl
     refine run ?_
     refine gR (aC (us := [iV x29.Kind, iV x29.Shape, iV x29.Flags, iV x29.Age, .slice A30 n30 c30, .slice A31 n31 c31]) 0 rfl rfl bu rfl) ?_
     obtain ⟨y34, hy34, h⟩ := aa h
     refine gD (am (fD hy34) sq rfl (mem_cons (aj (i := 2) rfl rfl) (mem_cons (aj (i := 3) rfl rfl) ae)) ee) ?_
     rintro _ _ ⟨_, ⟨rfl, rfl⟩, rfl⟩
     refine run ?_
     obtain ⟨b35, hb35, h⟩ := aa h
     refine aX 5 66 b35 ?_ ?_
     ·clear h
      refine aY 61 rfl (fun g35 => ?_) (fun g35 => ?_)
      ·have h := ah g35 hb35
       refine run ?_
       obtain rfl := aq h
       exact ak sA (ad [0, 1, 2, 3, 4, 5, 6, 7, 8] 9 rfl rfl)
      have h := ai g35 hb35
      refine cY (aC (us := [iV x29.Kind, iV x29.Shape, iV x29.Flags, iV x29.Age, .slice A30 n30 c30, .slice A31 n31 c31]) 0 rfl rfl bu rfl) rfl (gm g35 rfl) rfl ?_
      obtain ⟨y36, hy36, h⟩ := aa h
      refine dj (am (fE hy36) sm rfl (mem_cons (aj (i := 2) rfl rfl) (mem_cons (aj (i := 3) rfl rfl) ae)) ef) rfl (gm g35 rfl) rfl ?_
      rintro _ _ ⟨_, ⟨A37, n37, c37, rfl, rfl⟩, rfl⟩
      refine run ?_
      obtain ⟨y38, hy38, h⟩ := aa h
      refine dj (am (cC hy38 ⟨mem_cons rfl (mem_cons rfl (mem_cons rfl ae)), 52, #[], #[pV B4 0], rfl, FE, fun _ _ hh => nl hh⟩) so rfl (mem_cons (aK (i := 0) rfl) (mem_cons (fm (i := 9) rfl) (mem_cons (aj (i := 7) rfl rfl) (mem_cons (aj (i := 8) rfl rfl) ae)))) cn) rfl (gm g35 rfl) rfl ?_
      rintro _ _ ⟨_, ⟨rfl, rfl⟩, rfl⟩
      refine run ?_
      obtain rfl := aq h
      exact ak sA (ad [1, 2, 3, 4, 5, 6, 7, 8, 9] 10 rfl rfl)
     refine run ?_
     obtain ⟨b39, hb39, h⟩ := aa h
     refine aX 5 72 b39 ?_ ?_
     ·clear h
      refine aY 67 rfl (fun g39 => ?_) (fun g39 => ?_)
      ·have h := ah g39 hb39
       refine run ?_
       obtain rfl := aq h
       exact ak sA (ad [0, 1, 2, 3, 4, 5, 6, 7, 8] 9 rfl rfl)
      have h := ai g39 hb39
      refine cY (aC (us := [iV x29.Kind, iV x29.Shape, iV x29.Flags, iV x29.Age, .slice A30 n30 c30, .slice A31 n31 c31]) 0 rfl rfl bu rfl) rfl (gm g39 rfl) rfl ?_
      obtain ⟨y40, hy40, h⟩ := aa h
      refine dj (am (jU hy40) zP rfl (mem_cons (aj (i := 2) rfl rfl) (mem_cons (aj (i := 3) rfl rfl) ae)) iF) rfl (gm g39 rfl) rfl ?_
      rintro _ _ ⟨_, ⟨A41, n41, c41, rfl, rfl⟩, rfl⟩
      refine run ?_
      obtain ⟨y42, hy42, h⟩ := aa h
      refine dj (am (cC hy42 ⟨mem_cons rfl (mem_cons rfl (mem_cons rfl ae)), 52, #[], #[pV B4 0], rfl, FE, fun _ _ hh => nl hh⟩) so rfl (mem_cons (aK (i := 0) rfl) (mem_cons (fm (i := 9) rfl) (mem_cons (aj (i := 7) rfl rfl) (mem_cons (aj (i := 8) rfl rfl) ae)))) cn) rfl (gm g39 rfl) rfl ?_
      rintro _ _ ⟨_, ⟨rfl, rfl⟩, rfl⟩
      refine run ?_
      obtain rfl := aq h
      exact ak sA (ad [1, 2, 3, 4, 5, 6, 7, 8, 9] 10 rfl rfl)
     refine run ?_
     refine ay rfl (fun g43 => ?_) (fun g43 => ?_)
     ·replace h := ah g43 h
      refine run ?_
      obtain rfl := aq h
      exact aQ rfl rfl (ad [] 9 rfl rfl) ⟨rfl, rfl⟩
     replace h := ai g43 h
     refine run ?_
     obtain ⟨q44, h⟩ := ap h
     refine gE (aR rfl rfl q44.1 q44.2) ?_
     refine run ?_
     exact ⟨m26, _, _, Nat.lt_succ_self _, ⟨p27 + 1, h, rfl, rfl⟩, sA, ad [4, 5, 6, 7, 8] 9 rfl rfl⟩
    replace h := ai g28 h
    refine run ?_
    exact ⟨_, _, ⟨h, rfl, rfl⟩, sA, ad [0, 2, 3, 4] 5 rfl rfl⟩
   rintro _ _ ⟨h, rfl, rfl⟩
   refine cx ?_
   obtain ⟨q45, h⟩ := ap h
   refine gE (aR rfl rfl q45.1 q45.2) ?_
   refine run ?_
   exact ⟨m20, _, _, Nat.lt_succ_self _, ⟨p21 + 1, h, rfl, rfl⟩, sA, ad [0, 1, 2, 3] 4 rfl rfl⟩
  replace h := ai g22 h
  refine run ?_
  exact ⟨_, _, ⟨h, rfl, rfl⟩, sA, ad [] 4 rfl rfl⟩
 rintro _ _ ⟨h, rfl, rfl⟩
 refine run ?_
 obtain rfl := aq h
 exact aQ rfl rfl (ad [] 0 rfl rfl) ⟨rfl, rfl⟩
theorem t7 {r : Bool} : ∀ v post, ((fun (u : Value) (post : List Chunk) => u = .bool r ∧ post = [])) v post → ∀ c ∈ post, cZ c := by
 rintro _ _ ⟨rfl, rfl⟩; exact ae
def eV (N : Nat) (a0 : DValue) : Option Bool :=
 (bif decide (a0.Kind < 0) then (some true) else (some (decide (9 < a0.Kind)))).bind fun b2 => bif b2 then (some false) else (bif decide (a0.Kind = 5) then ((bif decide (a0.N = 0) then (some (decide ((a0.S.size : Int) ≤ 65536))) else (some false)).bind fun b5 => some b5) else (bif !(a0.S.toList == (⟨#[]⟩ : ByteArray).toList) then (some false) else (bif decide (a0.Kind = 2) then ((bif decide (a0.N = 0) then (some true) else (some (decide (a0.N = 1)))).bind fun b8 => some b8) else (bif decide (a0.Kind = 3) then ((bif decide ((-9007199254740992) ≤ a0.N) then (some (decide (a0.N ≤ 9007199254740992))) else (some false)).bind fun b10 => some b10) else ((bif decide (a0.Kind = 6) then (some true) else (some (decide (a0.Kind = 7)))).bind fun b11 => (bif b11 then (some true) else (some (decide (a0.Kind = 9)))).bind fun b12 => bif b12 then (some (decide (1 ≤ a0.N))) else (some (decide (a0.N = 0))))))))
def fZ (N : Nat) (a0 : Int) : Option Bool :=
 (bif decide (a0 = 1) then (some true) else (some (decide (a0 = 2)))).bind fun b1 => (bif b1 then (some true) else (some (decide (a0 = 3)))).bind fun b2 => (bif b2 then (some true) else (some (decide (a0 = 6)))).bind fun b3 => (bif b3 then (some true) else (some (decide (a0 = 8)))).bind fun b4 => (bif b4 then (some true) else (some (decide (a0 = 9)))).bind fun b5 => (bif b5 then (some true) else (some (decide (a0 = 10)))).bind fun b6 => some b6
def da (N : Nat) (a0 : DValue) (a1 : Int) : Option Bool :=
 (bif decide (a0.Kind = 0) then (some true) else (some (decide (a0.Kind = a1)))).bind fun b2 => some b2
def fc (N : Nat) (a0 : DCell) : Option Bool :=
 (fZ N a0.Kind).bind fun y4 => (bif y4 then (some true) else ((bif decide (a0.Kind = 7) then (some (decide (0 < (a0.Slots.length : Int)))) else (some false)).bind fun b6 => some b6)).bind fun b5 => bif b5 then ((bif decide (1 ≤ (a0.Slots.length : Int)) then (some (decide ((a0.Slots.length : Int) ≤ 1025))) else (some false)).bind fun b8 => (bif b8 then ((aG a0.Slots 0).bind fun x10 => (bif decide (x10.Kind = 1) then (some true) else ((aG a0.Slots 0).bind fun x12 => some (decide (x12.Kind = 7)))).bind fun b11 => some b11) else (some false)).bind fun b9 => some b9) else (bif decide (a0.Kind = 7) then (some (decide (a0.Shape = 0))) else ((bif !decide (a0.Shape = 0) then (some true) else (some (!decide (a0.Flags = 0)))).bind fun b14 => bif b14 then (some false) else (bif decide (a0.Kind = 5) then ((bif decide ((a0.Slots.length : Int) = 2) then ((aG a0.Slots 0).bind fun x18 => (da N x18 7).bind fun y19 => some y19) else (some false)).bind fun b17 => (bif b17 then ((aG a0.Slots 1).bind fun x21 => (da N x21 7).bind fun y22 => some y22) else (some false)).bind fun b20 => some b20) else (some (decide ((a0.Slots.length : Int) = 0))))))
def dY (N : Nat) (a0 : DValue) (a1 : Int) (a2 : Int) : Option Bool :=
 (bif decide (a0.Kind = 3) then (some (decide (a1 ≤ a0.N))) else (some false)).bind fun b2 => (bif b2 then (some (decide (a0.N ≤ a2))) else (some false)).bind fun b3 => some b3
def wx (N : Nat) : Option Bool :=
 some true
def r15_entries_l5 (N : Nat) (a1 : Int) (a0 : (List DValue)) : Nat → Int → Option Bool
 | 0, _ => none
 | m5 + 1, p6 => bif decide (p6 < (a0.length : Int)) then ((aG a0 p6).bind fun x8 => (bif !decide (x8.Kind = 7) then (some true) else (bM (in64 (p6 + 1)) ((aG a0 (p6 + 1)).bind fun x11 => some (decide (x11.Kind = 8))))).bind fun b9 => bif b9 then (some false) else ((bif decide (a1 = 4) then (bM (in64 (p6 + 2)) ((aG a0 (p6 + 2)).bind fun x15 => (da N x15 7).bind fun y16 => (bif !y16 then (some true) else (bM (in64 (p6 + 3)) ((aG a0 (p6 + 3)).bind fun x19 => (dY N x19 0 9007199254740992).bind fun y20 => some (!y20)))).bind fun b17 => some b17)) else (some false)).bind fun b13 => bif b13 then (some false) else (bM (in64 (p6 + a1)) ((r15_entries_l5 N a1 a0 m5) (p6 + a1))))) else (wx N)
def cI (N : Nat) (a0 : (List DValue)) (a1 : Int) : Option Bool :=
 bM (a1 ≠ 0) (bif !decide ((a0.length : Int).tmod a1 = 0) then (some false) else (r15_entries_l5 N a1 a0 N 0))
def fY (N : Nat) (a0 : DCell) (p7 : Bool) : Option Bool :=
 bif p7 then (some (decide ((a0.More.length : Int) = 0))) else (bif decide (a0.Kind = 3) then ((bif decide ((a0.More.length : Int) = 3) then ((aG a0.More 0).bind fun x12 => (dY N x12 0 9007199254740992).bind fun y13 => some y13) else (some false)).bind fun b11 => (bif b11 then ((aG a0.More 1).bind fun x15 => (da N x15 9).bind fun y16 => some y16) else (some false)).bind fun b14 => some b14) else (bif decide (a0.Kind = 4) then ((bif decide (1 ≤ (a0.More.length : Int)) then (some (decide ((a0.More.length : Int) ≤ 4097))) else (some false)).bind fun b18 => (bif b18 then ((aG a0.More 0).bind fun x20 => (da N x20 9).bind fun y21 => some y21) else (some false)).bind fun b19 => some b19) else (bif decide (a0.Kind = 6) then ((bif decide ((a0.More.length : Int) = 2) then ((aG a0.More 0).bind fun x24 => (dY N x24 0 3).bind fun y25 => some y25) else (some false)).bind fun b23 => (bif b23 then ((aG a0.More 1).bind fun x27 => (da N x27 9).bind fun y28 => some y28) else (some false)).bind fun b26 => some b26) else (bif decide (a0.Kind = 7) then ((bif decide (4 ≤ (a0.More.length : Int)) then ((aG a0.More 2).bind fun x31 => (dY N x31 0 1).bind fun y32 => some y32) else (some false)).bind fun b30 => (bif b30 then ((aG a0.More 3).bind fun x34 => (dY N x34 0 9007199254740992).bind fun y35 => some y35) else (some false)).bind fun b33 => some b33) else (bif decide (a0.Kind = 8) then ((cI N a0.More 2).bind fun y37 => some y37) else (bif decide (a0.Kind = 10) then ((bif decide (1 ≤ (a0.More.length : Int)) then ((aG a0.More 0).bind fun x40 => some (decide (x40.Kind = 7))) else (some false)).bind fun b39 => (bif b39 then (bM ((0 : Int) ≤ 1 ∧ (1 : Int).toNat ≤ a0.More.length ∧ a0.More.length ≤ a0.More.length) ((cI N ((a0.More.drop ((1 : Int).toNat)).take (a0.More.length - (1 : Int).toNat)) 4).bind fun y44 => some y44)) else (some false)).bind fun b41 => some b41) else (bif decide (a0.Kind = 9) then ((bif decide (2 ≤ (a0.More.length : Int)) then ((aG a0.More 0).bind fun x47 => (dY N x47 0 2).bind fun y48 => some y48) else (some false)).bind fun b46 => some b46) else (some true))))))))
def gk (N : Nat) (a0 : DCell) : Option Bool :=
 bif decide (1048576 < (a0.More.length : Int)) then (some false) else (bif decide (a0.Kind = 2) then (some (decide ((a0.More.length : Int) ≤ 4096))) else (bif decide (a0.Kind = 1) then (fY N a0 (decide (a0.Kind = 1))) else (fY N a0 (decide (a0.Kind = 5)))))
end Go.Proofs.YtmbaennilhdieaaGreat
namespace Go.Proofs.YtmbaennilhdieaaGreat
variable {A1 A2 A3 A4 : Option Addr} {B1 B3 M5 c1 c2 c3 c4 n1 n2 n3 n4 : Nat}
open Go.RowKit Asn
set_option maxRecDepth 20000
def cJ (N : Nat) (a0 : DCell) : Option Bool :=
 (fc N a0).bind fun y27 => (bif y27 then ((gk N a0).bind fun y29 => some y29) else (some false)).bind fun b28 => some b28
def r15_Right_l20 (N : Nat) (a0 : DCell) : Nat → Int → Option Bool
 | 0, _ => none
 | m20 + 1, p21 => bif decide (p21 < (a0.More.length : Int)) then ((aG a0.More p21).bind fun x23 => (eV N x23).bind fun y24 => bif !y24 then (some false) else (bM (in64 (p21 + 1)) ((r15_Right_l20 N a0 m20) (p21 + 1)))) else (cJ N a0)
def rD (N : Nat) (a0 : DCell) : Option Bool :=
 r15_Right_l20 N a0 N 0
def r15_Right_l12 (N : Nat) (a0 : DCell) : Nat → Int → Option Bool
 | 0, _ => none
 | m12 + 1, p13 => bif decide (p13 < (a0.Slots.length : Int)) then ((aG a0.Slots p13).bind fun x15 => (eV N x15).bind fun y16 => bif !y16 then (some false) else (bM (in64 (p13 + 1)) ((r15_Right_l12 N a0 m12) (p13 + 1)))) else (rD N a0)
def cQ (N : Nat) (a0 : DCell) : Option Bool :=
 (bif decide (a0.Kind < 1) then (some true) else (some (decide (11 < a0.Kind)))).bind fun b4 => (bif b4 then (some true) else (some (decide (a0.Shape < 0)))).bind fun b5 => (bif b5 then (some true) else (some (decide (a0.Flags < 0)))).bind fun b6 => (bif b6 then (some true) else (some (decide (63 < a0.Flags)))).bind fun b7 => (bif b7 then (some true) else (some (decide (a0.Age < 0)))).bind fun b8 => (bif b8 then (some true) else (some (decide (1 < a0.Age)))).bind fun b9 => bif b9 then (some false) else (r15_Right_l12 N a0 N 0)
def qG (N : Nat) (a0 : DValue) : Option Bool :=
 (bif decide (a0.Kind = 7) then (some true) else (some (decide (a0.Kind = 9)))).bind fun b2 => some b2
def r7 (N : Nat) (a0 : Int) (a1 : Int) : Option Bool :=
 (bif decide (a0 = 8) then (some true) else ((bif decide (a0 = 10) then (some (decide (0 < a1))) else (some false)).bind fun b2 => (bif b2 then (bM (in64 (a1 - 1)) (some (decide (((a1 - 1).tmod 4).tmod 2 = 0)))) else (some false)).bind fun b3 => some b3)).bind fun b1 => some b1
def xH (N : Nat) (p22 : (List Int)) : Option (List Int) :=
 some p22
def kI (N : Nat) (kb23 : (List Int) → Int → Option (List Int)) (p25 : Int) (a0 : DCell) (p28 : (List Int)) : Option (List Int) :=
 bM (in64 (p25 + 1)) (kb23 p28 (p25 + 1))
def r15_Leads_l23 (N : Nat) (a0 : DCell) : Nat → (List Int) → Int → Option (List Int)
 | 0, _, _ => none
 | m23 + 1, p24, p25 => bif decide (p25 < (a0.More.length : Int)) then ((aG a0.More p25).bind fun x29 => (qG N x29).bind fun y30 => (bif y30 then ((r7 N a0.Kind p25).bind fun y32 => some (!y32)) else (some false)).bind fun b31 => bif b31 then ((aG a0.More p25).bind fun x34 => bM (cD (p24.length + ([x34.N] : List Int).length)) (kI N (r15_Leads_l23 N a0 m23) p25 a0 (p24 ++ ([x34.N] : List Int)))) else (kI N (r15_Leads_l23 N a0 m23) p25 a0 p24)) else (xH N p24)
def sT (N : Nat) (a0 : DCell) (p5 : (List Int)) : Option (List Int) :=
 r15_Leads_l23 N a0 N p5 0
def kJ (N : Nat) (kb6 : (List Int) → Int → Option (List Int)) (p8 : Int) (a0 : DCell) (p12 : (List Int)) : Option (List Int) :=
 bM (in64 (p8 + 1)) (kb6 p12 (p8 + 1))
def r15_Leads_l6 (N : Nat) (a0 : DCell) : Nat → (List Int) → Int → Option (List Int)
 | 0, _, _ => none
 | m6 + 1, p7, p8 => bif decide (p8 < (a0.Slots.length : Int)) then ((aG a0.Slots p8).bind fun x13 => (qG N x13).bind fun y14 => bif y14 then ((aG a0.Slots p8).bind fun x16 => bM (cD (p7.length + ([x16.N] : List Int).length)) (kJ N (r15_Leads_l6 N a0 m6) p8 a0 (p7 ++ ([x16.N] : List Int)))) else (kJ N (r15_Leads_l6 N a0 m6) p8 a0 p7)) else (sT N a0 p7)
def nu (N : Nat) (a0 : DCell) : Option (List Int) :=
 r15_Leads_l6 N a0 N [] 0
def ub (N : Nat) (p4 : (List Int)) : Option (List Int) :=
 some p4
def kk (N : Nat) (kb5 : (List Int) → Int → Option (List Int)) (p7 : Int) (a0 : (List DValue)) (p10 : (List Int)) : Option (List Int) :=
 bM (in64 (p7 + 1)) (kb5 p10 (p7 + 1))
def r19_addresses_l5 (N : Nat) (a0 : (List DValue)) : Nat → (List Int) → Int → Option (List Int)
 | 0, _, _ => none
 | m5 + 1, p6, p7 => bif decide (p7 < (a0.length : Int)) then ((aG a0 p7).bind fun x11 => (bif decide (x11.Kind = 7) then (some true) else ((aG a0 p7).bind fun x13 => some (decide (x13.Kind = 9)))).bind fun b12 => bif b12 then ((aG a0 p7).bind fun x15 => bM (cD (p6.length + ([x15.N] : List Int).length)) (kk N (r19_addresses_l5 N a0 m5) p7 a0 (p6 ++ ([x15.N] : List Int)))) else (kk N (r19_addresses_l5 N a0 m5) p7 a0 p6)) else (ub N p6)
def jb (N : Nat) (a0 : (List DValue)) : Option (List Int) :=
 r19_addresses_l5 N a0 N ([] : List Int) 0
def DG (N : Nat) : Option Bool :=
 some false
def r19_In_l3 (N : Nat) (a1 : Int) (a0 : (List Int)) : Nat → Int → Option Bool
 | 0, _ => none
 | m3 + 1, p4 => bif decide (p4 < (a0.length : Int)) then ((aG a0 p4).bind fun x6 => bif decide (x6 = a1) then (some true) else (bM (in64 (p4 + 1)) ((r19_In_l3 N a1 a0 m3) (p4 + 1)))) else (DG N)
def ww (N : Nat) (a0 : (List Int)) (a1 : Int) : Option Bool :=
 r19_In_l3 N a1 a0 N 0
def BM (N : Nat) (p7 : (List Int)) : Option (List Int) :=
 some p7
def pN (N : Nat) (kb8 : (List Int) → Int → Option (List Int)) (p10 : Int) (a2 : (List Int)) (a0 : DMemory) (p13 : (List Int)) : Option (List Int) :=
 bM (in64 (p10 + 1)) (kb8 p13 (p10 + 1))
def r19_lay_l8 (N : Nat) (a2 : (List Int)) (a0 : DMemory) : Nat → (List Int) → Int → Option (List Int)
 | 0, _, _ => none
 | m8 + 1, p9, p10 => bif decide (p10 < (a2.length : Int)) then ((aG a2 p10).bind fun x14 => (kl N a0 x14).bind fun y15 => (bif y15 then ((aG a2 p10).bind fun x17 => (ww N p9 x17).bind fun y18 => some (!y18)) else (some false)).bind fun b16 => bif b16 then ((aG a2 p10).bind fun x20 => bM (cD (p9.length + ([x20] : List Int).length)) (pN N (r19_lay_l8 N a2 a0 m8) p10 a2 a0 (p9 ++ ([x20] : List Int)))) else (pN N (r19_lay_l8 N a2 a0 m8) p10 a2 a0 p9)) else (BM N p9)
def lU (N : Nat) (a0 : DMemory) (a1 : (List Int)) (a2 : (List Int)) : Option (List Int) :=
 r19_lay_l8 N a2 a0 N a1 0
def wu (N : Nat) (p6 : (List Int)) : Option (List Int) :=
 some p6
def r19_through_l7 (N : Nat) (a0 : DMemory) : Nat → (List Int) → Int → Option (List Int)
 | 0, _, _ => none
 | m7 + 1, p8, p9 => bif decide (p9 < (p8.length : Int)) then ((aG p8 p9).bind fun x11 => (la N a0 x11).bind fun y12 => (nu N y12).bind fun y17 => (lU N a0 p8 y17).bind fun y20 => bM (in64 (p9 + 1)) ((r19_through_l7 N a0 m7) y20 (p9 + 1))) else (wu N p8)
def gI (N : Nat) (a0 : DMemory) (a1 : (List Int)) (a2 : Int) : Option (List Int) :=
 r19_through_l7 N a0 N a1 a2
def rx (N : Nat) (p6 : (List Int)) : Option (List Int) :=
 some p6
def mq (N : Nat) (kb7 : (List Int) → Int → Option (List Int)) (p9 : Int) (p12 : (List Int)) : Option (List Int) :=
 bM (in64 (p9 + 1)) (kb7 p12 (p9 + 1))
def r19_rising_l13 (N : Nat) (kb7 : (List Int) → Int → Option (List Int)) (p9 : Int) : Nat → (List Int) → Int → Option (List Int)
 | 0, _, _ => none
 | m13 + 1, p14, p15 => (bif decide (0 < p15) then (bM (in64 (p15 - 1)) ((aG p14 (p15 - 1)).bind fun x18 => (aG p14 p15).bind fun x19 => some (decide (x19 < x18)))) else (some false)).bind fun b16 => bif b16 then ((aG p14 p15).bind fun x21 => bM (in64 (p15 - 1)) ((aG p14 (p15 - 1)).bind fun x23 => (aG p14 p15).bind fun x24 => bM (in64 (p15 - 1)) ((aG (List.set p14 p15.toNat x23) (p15 - 1)).bind fun x26 => bM (in64 (p15 - 1)) ((r19_rising_l13 N kb7 p9 m13) (List.set (List.set p14 p15.toNat x23) ((p15 - 1).toNat) x21) (p15 - 1))))) else (mq N kb7 p9 p14)
def r19_rising_l7 (N : Nat) : Nat → (List Int) → Int → Option (List Int)
 | 0, _, _ => none
 | m7 + 1, p8, p9 => bif decide (p9 < (p8.length : Int)) then (r19_rising_l13 N (r19_rising_l7 N m7) p9 N p8 p9) else (rx N p8)
def oN (N : Nat) (a0 : (List Int)) : Option (List Int) :=
 bM (cD (([] : List Int).length + a0.length)) (r19_rising_l7 N N (([] : List Int) ++ a0) 1)
def sQ (N : Nat) (a0 : DCell) : Option Bool :=
 (bif decide (a0.Kind = 8) then ((cQ N a0).bind fun y5 => some y5) else (some false)).bind fun b4 => some b4
def DH (N : Nat) : Option Bool :=
 some false
def r17_In_l3 (N : Nat) (a0 : Int) (a1 : (List Int)) : Nat → Int → Option Bool
 | 0, _ => none
 | m3 + 1, p4 => bif decide (p4 < (a1.length : Int)) then ((aG a1 p4).bind fun x6 => bif decide (x6 = a0) then (some true) else (bM (in64 (p4 + 1)) ((r17_In_l3 N a0 a1 m3) (p4 + 1)))) else (DH N)
def sR (N : Nat) (a0 : Int) (a1 : (List Int)) : Option Bool :=
 r17_In_l3 N a0 a1 N 0
def sP (N : Nat) (p6 : (List Int)) : Option (List Int) :=
 some p6
def nN (N : Nat) (kb7 : (List Int) → Int → Option (List Int)) (p9 : Int) (a1 : (List Int)) (a0 : DCell) (p15 : (List Int)) : Option (List Int) :=
 bM (in64 (p9 + 2)) (kb7 p15 (p9 + 2))
def r17_Opens_l7 (N : Nat) (a1 : (List Int)) (a0 : DCell) : Nat → (List Int) → Int → Option (List Int)
 | 0, _, _ => none
 | m7 + 1, p8, p9 => (sQ N a0).bind fun y11 => (bif y11 then (some (decide (p9 < (a0.More.length : Int)))) else (some false)).bind fun b12 => bif b12 then (bM (in64 (p9 + 1)) ((aG a0.More (p9 + 1)).bind fun x17 => (aG a0.More p9).bind fun x19 => (sR N x19.N a1).bind fun y20 => (bif y20 then ((bif decide (x17.Kind = 7) then (some true) else (some (decide (x17.Kind = 9)))).bind fun b22 => some b22) else (some false)).bind fun b21 => bif b21 then (bM (cD (p8.length + ([x17.N] : List Int).length)) (nN N (r17_Opens_l7 N a1 a0 m7) p9 a1 a0 (p8 ++ ([x17.N] : List Int)))) else (nN N (r17_Opens_l7 N a1 a0 m7) p9 a1 a0 p8))) else (sP N p8)
def pQ (N : Nat) (a0 : DCell) (a1 : (List Int)) : Option (List Int) :=
 r17_Opens_l7 N a1 a0 N [] 0
def rz (N : Nat) (kb12 : (List Int) → Option (List Int)) (p13 : (List Int)) (a0 : DMemory) (p15 : (List Int)) : Option (List Int) :=
 bif decide ((p15.length : Int) = (p13.length : Int)) then (some p15) else ((gI N a0 p15 (p13.length : Int)).bind fun y33 => kb12 y33)
def r19_Order_l16 (N : Nat) (kb12 : (List Int) → Option (List Int)) (p13 : (List Int)) (a0 : DMemory) : Nat → (List Int) → Int → Option (List Int)
 | 0, _, _ => none
 | m16 + 1, p17, p18 => bif decide (p18 < (p13.length : Int)) then ((aG p17 p18).bind fun x20 => (la N a0 x20).bind fun y21 => (pQ N y21 p17).bind fun y26 => (lU N a0 p17 y26).bind fun y29 => bM (in64 (p18 + 1)) ((r19_Order_l16 N kb12 p13 a0 m16) y29 (p18 + 1))) else (rz N kb12 p13 a0 p17)
def r19_Order_l12 (N : Nat) (a0 : DMemory) : Nat → (List Int) → Option (List Int)
 | 0, _ => none
 | m12 + 1, p13 => r19_Order_l16 N (r19_Order_l12 N a0 m12) p13 a0 N p13 0
def fX (N : Nat) (a0 : DMemory) (a1 : (List DValue)) : Option (List Int) :=
 (jb N a1).bind fun y5 => (lU N a0 ([] : List Int) y5).bind fun y8 => (gI N a0 y8 0).bind fun y10 => r19_Order_l12 N a0 N y10
def wv (N : Nat) (a0 : DMemory) (a1 : (List DValue)) : Option (List Int) :=
 (fX N a0 a1).bind fun y5 => (oN N y5).bind fun y7 => some y7
end Go.Proofs.YtmbaennilhdieaaGreat