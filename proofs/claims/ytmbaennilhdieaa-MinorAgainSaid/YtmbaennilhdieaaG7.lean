/- Merged texts: part 7. No conditions of their own. -/
import Derived.Test.YtmbaennilhdieaaG6
import Derived.Test.YtmbaennilhdieaaG1
namespace Go.Proofs.Ytmbaennilhdieaa
variable {A1 A2 A3 A4 : Option Addr} {c1 c2 c3 c4 n1 n2 n3 n4 : Nat}
open Go.RowKit Asn
set_option maxRecDepth 20000
def ob (N : Nat) : Option Bool :=
 some true
def r20_every_l6 (N : Nat) (a1 : (List Int)) (a0 : DMemory) : Nat → Int → Option Bool
 | 0, _ => none
 | m6 + 1, p7 => bif decide (p7 < (a1.length : Int)) then ((aH a1 p7).bind fun x9 => (mG N a0 x9).bind fun y10 => bif !y10 then (some false) else (bD (aK (p7 + 1)) ((r20_every_l6 N a1 a0 m6) (p7 + 1)))) else (ob N)
def fU (N : Nat) (a0 : DMemory) (a1 : (List Int)) : Option Bool :=
 r20_every_l6 N a1 a0 N 0
theorem kI {N : Nat} {a0 : DMemory} {a1 : (List Int)} {r : Bool} (h : fU N a0 a1 = some r) : Okc Try.prog 43 [.agg #[.slice A1 n1 c1, .slice A2 n2 c2], .slice A3 n3 c3] ([aR A1 n1 c1 a0.Young, aR A2 n2 c2 a0.Old, ca A3 n3 c3 a1]) (fun u post => u = .bool r ∧ post = []) := by
 refine bz Try.func43 rfl rfl ?_
 simp only [aQ]
 refine run ?_
 refine gD (aU rfl rfl) ?_
 rintro _ _ ⟨B4, rfl, rfl⟩
 refine run ?_
 refine aL (fun s L => ob N = some r ∧ s = [(4, .bool false)] ∧ L = []) ?_ ?_
 ·refine run ?_
  refine bc (fun m s L => ∃ p7, r20_every_l6 N a1 a0 m p7 = some r ∧ s = [(1, .slice A3 n3 c3), (2, pV B4 0), (4, .bool false), (5, iV p7)] ∧ L = [ca A3 n3 c3 a1, aR A1 n1 c1 a0.Young, aR A2 n2 c2 a0.Old, aq B4 24 [.slice A1 n1 c1, .slice A2 n2 c2]]) N _ _ ⟨0, h, rfl, rfl⟩ sA (ab [3, 1, 2, 0] 4 rfl rfl) ?_
  rintro (_ | m6) _ _ ⟨p7, h, rfl, rfl⟩
  ·exact aA h
  rw [r20_every_l6.eq_2] at h
  refine av ?_
  refine run ?_
  refine gR (az 0 rfl ai rfl Try.underlying31) ?_
  refine run ?_
  refine ar rfl (fun g8 => ?_) (fun g8 => ?_)
  ·replace h := ag g8 h
   refine run ?_
   refine av ?_
   refine ep ?_
   refine av ?_
   refine dY (by kernel_rfl) _ (ac _) ?_
   refine bL 0 rfl (by kernel_rfl) (aE (us := [.slice A1 n1 c1, .slice A2 n2 c2]) 3 rfl rfl ex rfl) rfl rfl ?_
   refine aW 1 rfl (by kernel_rfl) (aI rfl) rfl rfl ?_
   refine aW 2 rfl (by kernel_rfl) (aI rfl) rfl rfl ?_
   obtain ⟨x9, hx9, h⟩ := aa h
   obtain ⟨lx9, ux9, hx9⟩ := ap hx9
   refine bL 3 rfl (by kernel_rfl) (aC 0 rfl ai rfl rfl Try.underlying31 eH lx9 ux9) rfl rfl ?_
   refine bL 4 rfl (by kernel_rfl) (aX (u := iV x9) 0 rfl ai rfl hx9 dv (fun _ _ _ h => by rw [show _ = _ from h]; rfl)) rfl rfl ?_
   obtain ⟨y10, hy10, h⟩ := aa h
   refine ea 5 rfl (by kernel_rfl) (al (vO hy10) Ct rfl (mem_cons (am (i := 1) rfl rfl) (mem_cons (am (i := 2) rfl rfl) aj)) tj) rfl rfl rfl ?_
   rintro _ _ ⟨_, ⟨rfl, rfl⟩, rfl⟩
   refine ⟨_, ac _, ac _, ?_⟩
   refine aW 6 rfl (by kernel_rfl) (kX rfl) rfl rfl ?_
   refine dX (by kernel_rfl) ?_
   refine kO ?_
   refine ar rfl (fun g11 => ?_) (fun g11 => ?_)
   ·replace h := ag g11 h
    refine run ?_
    obtain rfl := ak h
    exact aB rfl rfl (ab [] 4 rfl rfl) ⟨rfl, rfl⟩
   replace h := ah g11 h
   refine run ?_
   obtain ⟨q12, h⟩ := ao h
   refine gE (aN rfl rfl q12.1 q12.2) ?_
   refine run ?_
   exact ⟨m6, _, _, Nat.lt_succ_self _, ⟨p7 + 1, h, rfl, rfl⟩, sA, ab [0, 1, 2, 3] 4 rfl rfl⟩
  replace h := ah g8 h
  refine run ?_
  exact ⟨_, _, ⟨h, rfl, rfl⟩, sA, ab [] 4 rfl rfl⟩
 rintro _ _ ⟨h, rfl, rfl⟩
 refine run ?_
 obtain rfl := ak h
 exact aB rfl rfl (ab [] 0 rfl rfl) ⟨rfl, rfl⟩
theorem jb {r : Bool} : ∀ v post, ((fun (u : Value) (post : List Chunk) => u = .bool r ∧ post = [])) v post → ∀ c ∈ post, bX c := by
 rintro _ _ ⟨rfl, rfl⟩; exact aj
def df (N : Nat) (a0 : DValue) : Option Bool :=
 (bif decide (a0.Kind < 0) then (some true) else (some (decide (9 < a0.Kind)))).bind fun b2 => bif b2 then (some false) else (bif decide (a0.Kind = 5) then ((bif decide (a0.N = 0) then (some (decide ((a0.S.size : Int) ≤ 65536))) else (some false)).bind fun b5 => some b5) else (bif !(a0.S.toList == (⟨#[]⟩ : ByteArray).toList) then (some false) else (bif decide (a0.Kind = 2) then ((bif decide (a0.N = 0) then (some true) else (some (decide (a0.N = 1)))).bind fun b8 => some b8) else (bif decide (a0.Kind = 3) then ((bif decide ((-9007199254740992) ≤ a0.N) then (some (decide (a0.N ≤ 9007199254740992))) else (some false)).bind fun b10 => some b10) else ((bif decide (a0.Kind = 6) then (some true) else (some (decide (a0.Kind = 7)))).bind fun b11 => (bif b11 then (some true) else (some (decide (a0.Kind = 9)))).bind fun b12 => bif b12 then (some (decide (1 ≤ a0.N))) else (some (decide (a0.N = 0))))))))
theorem rb {N : Nat} {a0 : DValue} {r : Bool} (h : df N a0 = some r) : Okc Try.prog 84 [.agg #[iV a0.Kind, iV a0.N, .string a0.S]] ([]) (fun u post => u = .bool r ∧ post = []) := by
 refine bz Try.func84 rfl rfl ?_
 simp only [aQ]
 refine run ?_
 refine gD (aU rfl rfl) ?_
 rintro _ _ ⟨B1, rfl, rfl⟩
 refine run ?_
 refine av ?_
 refine run ?_
 obtain ⟨b2, hb2, h⟩ := aa h
 refine aw 4 10 b2 ?_ ?_
 ·clear h
  refine ax 6 rfl (fun g2 => ?_) (fun g2 => ?_)
  ·have h := ag g2 hb2
   refine run ?_
   obtain rfl := ak h
   exact ad sA (ab [0] 1 rfl rfl)
  have h := ah g2 hb2
  refine run ?_
  obtain rfl := ak h
  exact ad sA (ab [0] 1 rfl rfl)
 refine run ?_
 refine ar rfl (fun g3 => ?_) (fun g3 => ?_)
 ·replace h := ag g3 h
  refine run ?_
  obtain rfl := ak h
  exact aB rfl rfl (ab [] 1 rfl rfl) ⟨rfl, rfl⟩
 replace h := ah g3 h
 refine run ?_
 refine av ?_
 refine run ?_
 refine ar rfl (fun g4 => ?_) (fun g4 => ?_)
 ·replace h := ag g4 h
  refine run ?_
  obtain ⟨b5, hb5, h⟩ := aa h
  refine aw 5 22 b5 ?_ ?_
  ·clear h
   refine ax 17 rfl (fun g5 => ?_) (fun g5 => ?_)
   ·have h := ag g5 hb5
    refine run ?_
    refine kc (xf rfl Try.underlying9) rfl (aJ g5 rfl) rfl ?_
    refine run ?_
    obtain rfl := ak h
    exact ad sA (ab [0] 1 rfl rfl)
   have h := ah g5 hb5
   refine run ?_
   obtain rfl := ak h
   exact ad sA (ab [0] 1 rfl rfl)
  refine run ?_
  obtain rfl := ak h
  exact aB rfl rfl (ab [] 1 rfl rfl) ⟨rfl, rfl⟩
 replace h := ah g4 h
 refine run ?_
 refine av ?_
 refine run ?_
 refine gE (uX rfl rfl) ?_
 refine run ?_
 refine ar rfl (fun g6 => ?_) (fun g6 => ?_)
 ·replace h := ag g6 h
  refine run ?_
  obtain rfl := ak h
  exact aB rfl rfl (ab [] 1 rfl rfl) ⟨rfl, rfl⟩
 replace h := ah g6 h
 refine run ?_
 refine av ?_
 refine run ?_
 refine ar rfl (fun g7 => ?_) (fun g7 => ?_)
 ·replace h := ag g7 h
  refine run ?_
  obtain ⟨b8, hb8, h⟩ := aa h
  refine aw 4 36 b8 ?_ ?_
  ·clear h
   refine ax 32 rfl (fun g8 => ?_) (fun g8 => ?_)
   ·have h := ag g8 hb8
    refine run ?_
    obtain rfl := ak h
    exact ad sA (ab [0] 1 rfl rfl)
   have h := ah g8 hb8
   refine run ?_
   obtain rfl := ak h
   exact ad sA (ab [0] 1 rfl rfl)
  refine run ?_
  obtain rfl := ak h
  exact aB rfl rfl (ab [] 1 rfl rfl) ⟨rfl, rfl⟩
 replace h := ah g7 h
 refine run ?_
 refine av ?_
 refine run ?_
 refine ar rfl (fun g9 => ?_) (fun g9 => ?_)
 ·replace h := ag g9 h
  refine run ?_
  obtain ⟨b10, hb10, h⟩ := aa h
  refine aw 4 47 b10 ?_ ?_
  ·clear h
   refine ax 43 rfl (fun g10 => ?_) (fun g10 => ?_)
   ·have h := ag g10 hb10
    refine run ?_
    obtain rfl := ak h
    exact ad sA (ab [0] 1 rfl rfl)
   have h := ah g10 hb10
   refine run ?_
   obtain rfl := ak h
   exact ad sA (ab [0] 1 rfl rfl)
  refine run ?_
  obtain rfl := ak h
  exact aB rfl rfl (ab [] 1 rfl rfl) ⟨rfl, rfl⟩
 replace h := ah g9 h
 refine run ?_
 refine av ?_
 refine run ?_
 obtain ⟨b11, hb11, h⟩ := aa h
 refine aw 4 55 b11 ?_ ?_
 ·clear h
  refine ax 51 rfl (fun g11 => ?_) (fun g11 => ?_)
  ·have h := ag g11 hb11
   refine run ?_
   obtain rfl := ak h
   exact ad sA (ab [0] 1 rfl rfl)
  have h := ah g11 hb11
  refine run ?_
  obtain rfl := ak h
  exact ad sA (ab [0] 1 rfl rfl)
 refine run ?_
 obtain ⟨b12, hb12, h⟩ := aa h
 refine aw 4 60 b12 ?_ ?_
 ·clear h
  refine ax 56 rfl (fun g12 => ?_) (fun g12 => ?_)
  ·have h := ag g12 hb12
   refine run ?_
   obtain rfl := ak h
   exact ad sA (ab [0] 1 rfl rfl)
  have h := ah g12 hb12
  refine run ?_
  obtain rfl := ak h
  exact ad sA (ab [0] 1 rfl rfl)
 refine run ?_
 refine ar rfl (fun g13 => ?_) (fun g13 => ?_)
 ·replace h := ag g13 h
  refine run ?_
  obtain rfl := ak h
  exact aB rfl rfl (ab [] 1 rfl rfl) ⟨rfl, rfl⟩
 replace h := ah g13 h
 refine run ?_
 obtain rfl := ak h
 exact aB rfl rfl (ab [] 1 rfl rfl) ⟨rfl, rfl⟩
theorem oo {r : Bool} : ∀ v post, ((fun (u : Value) (post : List Chunk) => u = .bool r ∧ post = [])) v post → ∀ c ∈ post, bX c := by
 rintro _ _ ⟨rfl, rfl⟩; exact aj
def dF (N : Nat) (a0 : Int) : Option Bool :=
 (bif decide (a0 = 1) then (some true) else (some (decide (a0 = 2)))).bind fun b1 => (bif b1 then (some true) else (some (decide (a0 = 3)))).bind fun b2 => (bif b2 then (some true) else (some (decide (a0 = 6)))).bind fun b3 => (bif b3 then (some true) else (some (decide (a0 = 8)))).bind fun b4 => (bif b4 then (some true) else (some (decide (a0 = 9)))).bind fun b5 => (bif b5 then (some true) else (some (decide (a0 = 10)))).bind fun b6 => some b6
theorem tv {N : Nat} {a0 : Int} {r : Bool} (h : dF N a0 = some r) : Okc Try.prog 119 [iV a0] ([]) (fun u post => u = .bool r ∧ post = []) := by
 refine bz Try.func119 rfl rfl ?_
 simp only [aQ]
 refine run ?_
 obtain ⟨b1, hb1, h⟩ := aa h
 refine aw 3 8 b1 ?_ ?_
 ·clear h
  refine ax 5 rfl (fun g1 => ?_) (fun g1 => ?_)
  ·have h := ag g1 hb1
   refine run ?_
   obtain rfl := ak h
   exact ad sA (ab [] 0 rfl rfl)
  have h := ah g1 hb1
  refine run ?_
  obtain rfl := ak h
  exact ad sA (ab [] 0 rfl rfl)
 refine run ?_
 obtain ⟨b2, hb2, h⟩ := aa h
 refine aw 3 12 b2 ?_ ?_
 ·clear h
  refine ax 9 rfl (fun g2 => ?_) (fun g2 => ?_)
  ·have h := ag g2 hb2
   refine run ?_
   obtain rfl := ak h
   exact ad sA (ab [] 0 rfl rfl)
  have h := ah g2 hb2
  refine run ?_
  obtain rfl := ak h
  exact ad sA (ab [] 0 rfl rfl)
 refine run ?_
 obtain ⟨b3, hb3, h⟩ := aa h
 refine aw 3 16 b3 ?_ ?_
 ·clear h
  refine ax 13 rfl (fun g3 => ?_) (fun g3 => ?_)
  ·have h := ag g3 hb3
   refine run ?_
   obtain rfl := ak h
   exact ad sA (ab [] 0 rfl rfl)
  have h := ah g3 hb3
  refine run ?_
  obtain rfl := ak h
  exact ad sA (ab [] 0 rfl rfl)
 refine run ?_
 obtain ⟨b4, hb4, h⟩ := aa h
 refine aw 3 20 b4 ?_ ?_
 ·clear h
  refine ax 17 rfl (fun g4 => ?_) (fun g4 => ?_)
  ·have h := ag g4 hb4
   refine run ?_
   obtain rfl := ak h
   exact ad sA (ab [] 0 rfl rfl)
  have h := ah g4 hb4
  refine run ?_
  obtain rfl := ak h
  exact ad sA (ab [] 0 rfl rfl)
 refine run ?_
 obtain ⟨b5, hb5, h⟩ := aa h
 refine aw 3 24 b5 ?_ ?_
 ·clear h
  refine ax 21 rfl (fun g5 => ?_) (fun g5 => ?_)
  ·have h := ag g5 hb5
   refine run ?_
   obtain rfl := ak h
   exact ad sA (ab [] 0 rfl rfl)
  have h := ah g5 hb5
  refine run ?_
  obtain rfl := ak h
  exact ad sA (ab [] 0 rfl rfl)
 refine run ?_
 obtain ⟨b6, hb6, h⟩ := aa h
 refine aw 3 28 b6 ?_ ?_
 ·clear h
  refine ax 25 rfl (fun g6 => ?_) (fun g6 => ?_)
  ·have h := ag g6 hb6
   refine run ?_
   obtain rfl := ak h
   exact ad sA (ab [] 0 rfl rfl)
  have h := ah g6 hb6
  refine run ?_
  obtain rfl := ak h
  exact ad sA (ab [] 0 rfl rfl)
 refine run ?_
 obtain rfl := ak h
 exact aB rfl rfl (ab [] 0 rfl rfl) ⟨rfl, rfl⟩
theorem ra {r : Bool} : ∀ v post, ((fun (u : Value) (post : List Chunk) => u = .bool r ∧ post = [])) v post → ∀ c ∈ post, bX c := by
 rintro _ _ ⟨rfl, rfl⟩; exact aj
def bV (N : Nat) (a0 : DValue) (a1 : Int) : Option Bool :=
 (bif decide (a0.Kind = 0) then (some true) else (some (decide (a0.Kind = a1)))).bind fun b2 => some b2
theorem fW {N : Nat} {a0 : DValue} {a1 : Int} {r : Bool} (h : bV N a0 a1 = some r) : Okc Try.prog 120 [.agg #[iV a0.Kind, iV a0.N, .string a0.S], iV a1] ([]) (fun u post => u = .bool r ∧ post = []) := by
 refine bz Try.func120 rfl rfl ?_
 simp only [aQ]
 refine run ?_
 refine gD (aU rfl rfl) ?_
 rintro _ _ ⟨B1, rfl, rfl⟩
 refine run ?_
 obtain ⟨b2, hb2, h⟩ := aa h
 refine aw 5 13 b2 ?_ ?_
 ·clear h
  refine ax 8 rfl (fun g2 => ?_) (fun g2 => ?_)
  ·have h := ag g2 hb2
   refine run ?_
   obtain rfl := ak h
   exact ad sA (ab [0] 1 rfl rfl)
  have h := ah g2 hb2
  refine run ?_
  obtain rfl := ak h
  exact ad sA (ab [0] 1 rfl rfl)
 refine run ?_
 obtain rfl := ak h
 exact aB rfl rfl (ab [] 1 rfl rfl) ⟨rfl, rfl⟩
theorem ez {r : Bool} : ∀ v post, ((fun (u : Value) (post : List Chunk) => u = .bool r ∧ post = [])) v post → ∀ c ∈ post, bX c := by
 rintro _ _ ⟨rfl, rfl⟩; exact aj
def cX (N : Nat) (a0 : DCell) : Option Bool :=
 (dF N a0.Kind).bind fun y4 => (bif y4 then (some true) else ((bif decide (a0.Kind = 7) then (some (decide (0 < (a0.Slots.length : Int)))) else (some false)).bind fun b6 => some b6)).bind fun b5 => bif b5 then ((bif decide (1 ≤ (a0.Slots.length : Int)) then (some (decide ((a0.Slots.length : Int) ≤ 1025))) else (some false)).bind fun b8 => (bif b8 then ((aH a0.Slots 0).bind fun x10 => (bif decide (x10.Kind = 1) then (some true) else ((aH a0.Slots 0).bind fun x12 => some (decide (x12.Kind = 7)))).bind fun b11 => some b11) else (some false)).bind fun b9 => some b9) else (bif decide (a0.Kind = 7) then (some (decide (a0.Shape = 0))) else ((bif !decide (a0.Shape = 0) then (some true) else (some (!decide (a0.Flags = 0)))).bind fun b14 => bif b14 then (some false) else (bif decide (a0.Kind = 5) then ((bif decide ((a0.Slots.length : Int) = 2) then ((aH a0.Slots 0).bind fun x18 => (bV N x18 7).bind fun y19 => some y19) else (some false)).bind fun b17 => (bif b17 then ((aH a0.Slots 1).bind fun x21 => (bV N x21 7).bind fun y22 => some y22) else (some false)).bind fun b20 => some b20) else (some (decide ((a0.Slots.length : Int) = 0))))))
theorem tt {N : Nat} {a0 : DCell} {r : Bool} (h : cX N a0 = some r) : Okc Try.prog 85 [.agg #[iV a0.Kind, iV a0.Shape, iV a0.Flags, iV a0.Age, .slice A1 n1 c1, .slice A2 n2 c2]] ([aF A1 n1 c1 a0.Slots, aF A2 n2 c2 a0.More]) (fun u post => u = .bool r ∧ post = []) := by
 refine bz Try.func85 rfl rfl ?_
 simp only [aQ]
 refine run ?_
 refine gD (aU rfl rfl) ?_
 rintro _ _ ⟨B3, rfl, rfl⟩
 refine run ?_
 refine av ?_
 refine run ?_
 obtain ⟨y4, hy4, h⟩ := aa h
 refine gD (al (tv hy4) Bi rfl (aj) ra) ?_
 rintro _ _ ⟨_, ⟨rfl, rfl⟩, rfl⟩
 refine run ?_
 obtain ⟨b5, hb5, h⟩ := aa h
 refine aw 10 16 b5 ?_ ?_
 ·clear h
  refine ax 6 rfl (fun g5 => ?_) (fun g5 => ?_)
  ·have h := ag g5 hb5
   refine run ?_
   obtain rfl := ak h
   exact ad sA (ab [0, 1, 2] 3 rfl rfl)
  have h := ah g5 hb5
  refine run ?_
  obtain ⟨b6, hb6, h⟩ := aa h
  refine aw 5 15 b6 ?_ ?_
  ·clear h
   refine ax 10 rfl (fun g6 => ?_) (fun g6 => ?_)
   ·have h := ag g6 hb6
    refine run ?_
    refine aZ (az 1 rfl ai rfl Try.underlying25) rfl (aJ g6 rfl) rfl ?_
    refine run ?_
    obtain rfl := ak h
    exact ad sA (ab [0, 1, 2] 3 rfl rfl)
   have h := ah g6 hb6
   refine run ?_
   obtain rfl := ak h
   exact ad sA (ab [0, 1, 2] 3 rfl rfl)
  refine run ?_
  obtain rfl := ak h
  exact ad sA (ab [0, 1, 2] 3 rfl rfl)
 refine run ?_
 refine ar rfl (fun g7 => ?_) (fun g7 => ?_)
 ·replace h := ag g7 h
  refine run ?_
  refine gR (az 1 rfl ai rfl Try.underlying25) ?_
  refine run ?_
  obtain ⟨b8, hb8, h⟩ := aa h
  refine aw 5 26 b8 ?_ ?_
  ·clear h
   refine ax 21 rfl (fun g8 => ?_) (fun g8 => ?_)
   ·have h := ag g8 hb8
    refine run ?_
    refine aZ (az 1 rfl ai rfl Try.underlying25) rfl (aJ g8 rfl) rfl ?_
    refine run ?_
    obtain rfl := ak h
    exact ad sA (ab [0, 1, 2] 3 rfl rfl)
   have h := ah g8 hb8
   refine run ?_
   obtain rfl := ak h
   exact ad sA (ab [0, 1, 2] 3 rfl rfl)
  refine run ?_
  obtain ⟨b9, hb9, h⟩ := aa h
  refine aw 15 42 b9 ?_ ?_
  ·clear h
   refine ax 27 rfl (fun g9 => ?_) (fun g9 => ?_)
   ·have h := ag g9 hb9
    refine run ?_
    obtain ⟨x10, hx10, h⟩ := aa h
    obtain ⟨lx10, ux10, hx10⟩ := ap hx10
    refine aZ (aC 1 rfl ai rfl rfl Try.underlying25 aG lx10 ux10) rfl (aJ g9 rfl) rfl ?_
    refine aZ (iq 1 rfl ai rfl (bU lx10 ux10) ei) rfl (aJ g9 rfl) rfl ?_
    refine aZ (aX (u := iV x10.Kind) 1 rfl ai rfl hx10 dv (fun _ _ _ h => by rw [show _ = _ from h]; rfl)) rfl (aJ g9 rfl) rfl ?_
    refine run ?_
    obtain ⟨b11, hb11, h⟩ := aa h
    refine aw 7 41 b11 ?_ ?_
    ·clear h
     refine ax 34 rfl (fun g11 => ?_) (fun g11 => ?_)
     ·have h := ag g11 hb11
      refine run ?_
      obtain rfl := ak h
      exact ad sA (ab [0, 1, 2] 3 rfl rfl)
     have h := ah g11 hb11
     refine run ?_
     obtain ⟨x12, hx12, h⟩ := aa h
     obtain ⟨lx12, ux12, hx12⟩ := ap hx12
     refine aZ (aC 1 rfl ai rfl rfl Try.underlying25 aG lx12 ux12) rfl (cO g11 rfl) rfl ?_
     refine aZ (iq 1 rfl ai rfl (bU lx12 ux12) ei) rfl (cO g11 rfl) rfl ?_
     refine aZ (aX (u := iV x12.Kind) 1 rfl ai rfl hx12 dv (fun _ _ _ h => by rw [show _ = _ from h]; rfl)) rfl (cO g11 rfl) rfl ?_
     refine run ?_
     obtain rfl := ak h
     exact ad sA (ab [0, 1, 2] 3 rfl rfl)
    refine run ?_
    obtain rfl := ak h
    exact ad sA (ab [0, 1, 2] 3 rfl rfl)
   have h := ah g9 hb9
   refine run ?_
   obtain rfl := ak h
   exact ad sA (ab [0, 1, 2] 3 rfl rfl)
  refine run ?_
  obtain rfl := ak h
  exact aB rfl rfl (ab [] 3 rfl rfl) ⟨rfl, rfl⟩
 replace h := ah g7 h
 refine run ?_
 refine av ?_
 refine run ?_
 refine ar rfl (fun g13 => ?_) (fun g13 => ?_)
 ·replace h := ag g13 h
  refine run ?_
  obtain rfl := ak h
  exact aB rfl rfl (ab [] 3 rfl rfl) ⟨rfl, rfl⟩
 replace h := ah g13 h
 refine run ?_
 refine av ?_
 refine run ?_
 obtain ⟨b14, hb14, h⟩ := aa h
 refine aw 4 56 b14 ?_ ?_
 ·clear h
  refine ax 52 rfl (fun g14 => ?_) (fun g14 => ?_)
  ·have h := ag g14 hb14
   refine run ?_
   obtain rfl := ak h
   exact ad sA (ab [0, 1, 2] 3 rfl rfl)
  have h := ah g14 hb14
  refine run ?_
  obtain rfl := ak h
  exact ad sA (ab [0, 1, 2] 3 rfl rfl)
 refine run ?_
 refine ar rfl (fun g15 => ?_) (fun g15 => ?_)
 ·replace h := ag g15 h
  refine run ?_
  obtain rfl := ak h
  exact aB rfl rfl (ab [] 3 rfl rfl) ⟨rfl, rfl⟩
 replace h := ah g15 h
 refine run ?_
 refine av ?_
 refine run ?_
 refine ar rfl (fun g16 => ?_) (fun g16 => ?_)
 ·replace h := ag g16 h
  refine run ?_
  refine gR (az 1 rfl ai rfl Try.underlying25) ?_
  refine run ?_
  obtain ⟨b17, hb17, h⟩ := aa h
  refine aw 6 70 b17 ?_ ?_
  ·clear h
   refine ax 64 rfl (fun g17 => ?_) (fun g17 => ?_)
   ·have h := ag g17 hb17
    refine run ?_
    obtain ⟨x18, hx18, h⟩ := aa h
    obtain ⟨lx18, ux18, hx18⟩ := ap hx18
    refine aZ (aC 1 rfl ai rfl rfl Try.underlying25 aG lx18 ux18) rfl (aJ g17 rfl) rfl ?_
    refine aZ (aO (us := [iV x18.Kind, iV x18.N, .string x18.S]) 1 rfl ai rfl hx18 bp (fun _ _ _ h => by rw [show _ = _ from h]; rfl)) rfl (aJ g17 rfl) rfl ?_
    obtain ⟨y19, hy19, h⟩ := aa h
    refine bM (al (fW hy19) mP rfl (aj) ez) rfl (aJ g17 rfl) rfl ?_
    rintro _ _ ⟨_, ⟨rfl, rfl⟩, rfl⟩
    refine run ?_
    obtain rfl := ak h
    exact ad sA (ab [0, 1, 2] 3 rfl rfl)
   have h := ah g17 hb17
   refine run ?_
   obtain rfl := ak h
   exact ad sA (ab [0, 1, 2] 3 rfl rfl)
  refine run ?_
  obtain ⟨b20, hb20, h⟩ := aa h
  refine aw 6 77 b20 ?_ ?_
  ·clear h
   refine ax 71 rfl (fun g20 => ?_) (fun g20 => ?_)
   ·have h := ag g20 hb20
    refine run ?_
    obtain ⟨x21, hx21, h⟩ := aa h
    obtain ⟨lx21, ux21, hx21⟩ := ap hx21
    refine aZ (aC 1 rfl ai rfl rfl Try.underlying25 aG lx21 ux21) rfl (aJ g20 rfl) rfl ?_
    refine aZ (aO (us := [iV x21.Kind, iV x21.N, .string x21.S]) 1 rfl ai rfl hx21 bp (fun _ _ _ h => by rw [show _ = _ from h]; rfl)) rfl (aJ g20 rfl) rfl ?_
    obtain ⟨y22, hy22, h⟩ := aa h
    refine bM (al (fW hy22) mP rfl (aj) ez) rfl (aJ g20 rfl) rfl ?_
    rintro _ _ ⟨_, ⟨rfl, rfl⟩, rfl⟩
    refine run ?_
    obtain rfl := ak h
    exact ad sA (ab [0, 1, 2] 3 rfl rfl)
   have h := ah g20 hb20
   refine run ?_
   obtain rfl := ak h
   exact ad sA (ab [0, 1, 2] 3 rfl rfl)
  refine run ?_
  obtain rfl := ak h
  exact aB rfl rfl (ab [] 3 rfl rfl) ⟨rfl, rfl⟩
 replace h := ah g16 h
 refine run ?_
 refine gR (az 1 rfl ai rfl Try.underlying25) ?_
 refine run ?_
 obtain rfl := ak h
 exact aB rfl rfl (ab [] 3 rfl rfl) ⟨rfl, rfl⟩
theorem qY {r : Bool} : ∀ v post, ((fun (u : Value) (post : List Chunk) => u = .bool r ∧ post = [])) v post → ∀ c ∈ post, bX c := by
 rintro _ _ ⟨rfl, rfl⟩; exact aj
def cD (N : Nat) (a0 : DValue) (a1 : Int) (a2 : Int) : Option Bool :=
 (bif decide (a0.Kind = 3) then (some (decide (a1 ≤ a0.N))) else (some false)).bind fun b2 => (bif b2 then (some (decide (a0.N ≤ a2))) else (some false)).bind fun b3 => some b3
theorem gF {N : Nat} {a0 : DValue} {a1 : Int} {a2 : Int} {r : Bool} (h : cD N a0 a1 a2 = some r) : Okc Try.prog 121 [.agg #[iV a0.Kind, iV a0.N, .string a0.S], iV a1, iV a2] ([]) (fun u post => u = .bool r ∧ post = []) := by
 refine bz Try.func121 rfl rfl ?_
 simp only [aQ]
 refine run ?_
 refine gD (aU rfl rfl) ?_
 rintro _ _ ⟨B1, rfl, rfl⟩
 refine run ?_
 obtain ⟨b2, hb2, h⟩ := aa h
 refine aw 5 15 b2 ?_ ?_
 ·clear h
  refine ax 10 rfl (fun g2 => ?_) (fun g2 => ?_)
  ·have h := ag g2 hb2
   refine run ?_
   obtain rfl := ak h
   exact ad sA (ab [0] 1 rfl rfl)
  have h := ah g2 hb2
  refine run ?_
  obtain rfl := ak h
  exact ad sA (ab [0] 1 rfl rfl)
 refine run ?_
 obtain ⟨b3, hb3, h⟩ := aa h
 refine aw 5 21 b3 ?_ ?_
 ·clear h
  refine ax 16 rfl (fun g3 => ?_) (fun g3 => ?_)
  ·have h := ag g3 hb3
   refine run ?_
   obtain rfl := ak h
   exact ad sA (ab [0] 1 rfl rfl)
  have h := ah g3 hb3
  refine run ?_
  obtain rfl := ak h
  exact ad sA (ab [0] 1 rfl rfl)
 refine run ?_
 obtain rfl := ak h
 exact aB rfl rfl (ab [] 1 rfl rfl) ⟨rfl, rfl⟩
theorem fe {r : Bool} : ∀ v post, ((fun (u : Value) (post : List Chunk) => u = .bool r ∧ post = [])) v post → ∀ c ∈ post, bX c := by
 rintro _ _ ⟨rfl, rfl⟩; exact aj
def lQ (N : Nat) : Option Bool :=
 some true
def r15_entries_l5 (N : Nat) (a1 : Int) (a0 : (List DValue)) : Nat → Int → Option Bool
 | 0, _ => none
 | m5 + 1, p6 => bif decide (p6 < (a0.length : Int)) then ((aH a0 p6).bind fun x8 => (bif !decide (x8.Kind = 7) then (some true) else (bD (aK (p6 + 1)) ((aH a0 (p6 + 1)).bind fun x11 => some (decide (x11.Kind = 8))))).bind fun b9 => bif b9 then (some false) else ((bif decide (a1 = 4) then (bD (aK (p6 + 2)) ((aH a0 (p6 + 2)).bind fun x15 => (bV N x15 7).bind fun y16 => (bif !y16 then (some true) else (bD (aK (p6 + 3)) ((aH a0 (p6 + 3)).bind fun x19 => (cD N x19 0 9007199254740992).bind fun y20 => some (!y20)))).bind fun b17 => some b17)) else (some false)).bind fun b13 => bif b13 then (some false) else (bD (aK (p6 + a1)) ((r15_entries_l5 N a1 a0 m5) (p6 + a1))))) else (lQ N)
def bG (N : Nat) (a0 : (List DValue)) (a1 : Int) : Option Bool :=
 bD (a1 ≠ 0) (bif !decide ((a0.length : Int).tmod a1 = 0) then (some false) else (r15_entries_l5 N a1 a0 N 0))
theorem lP {N : Nat} {a0 : (List DValue)} {a1 : Int} {r : Bool} (h : bG N a0 a1 = some r) : Okc Try.prog 122 [.slice A1 n1 c1, iV a1] ([aF A1 n1 c1 a0]) (fun u post => u = .bool r ∧ post = []) := by
 refine bz Try.func122 rfl rfl ?_
 simp only [aQ]
 refine run ?_
 refine av ?_
 refine run ?_
 refine gR (az 0 rfl ai rfl Try.underlying25) ?_
 refine run ?_
 obtain ⟨q2, h⟩ := ao h
 refine gE (mg rfl rfl q2) ?_
 refine run ?_
 refine ar rfl (fun g3 => ?_) (fun g3 => ?_)
 ·replace h := ag g3 h
  refine run ?_
  obtain rfl := ak h
  exact aB rfl rfl (ab [] 1 rfl rfl) ⟨rfl, rfl⟩
 replace h := ah g3 h
 refine run ?_
 refine aL (fun s L => lQ N = some r ∧ s = [(4, .bool false)] ∧ L = []) ?_ ?_
 ·refine run ?_
  refine bc (fun m s L => ∃ p6, r15_entries_l5 N a1 a0 m p6 = some r ∧ s = [(0, .slice A1 n1 c1), (1, iV a1), (4, .bool false), (5, iV p6)] ∧ L = [aF A1 n1 c1 a0]) N _ _ ⟨0, h, rfl, rfl⟩ sA (ab [0] 1 rfl rfl) ?_
  rintro (_ | m5) _ _ ⟨p6, h, rfl, rfl⟩
  ·exact aA h
  rw [r15_entries_l5.eq_2] at h
  refine av ?_
  refine run ?_
  refine gR (az 0 rfl ai rfl Try.underlying25) ?_
  refine run ?_
  refine ar rfl (fun g7 => ?_) (fun g7 => ?_)
  ·replace h := ag g7 h
   refine run ?_
   refine av ?_
   refine ep ?_
   refine av ?_
   refine run ?_
   obtain ⟨x8, hx8, h⟩ := aa h
   obtain ⟨lx8, ux8, hx8⟩ := ap hx8
   refine gR (aC 0 rfl ai rfl rfl Try.underlying25 aG lx8 ux8) ?_
   refine gR (iq 0 rfl ai rfl (bU lx8 ux8) ei) ?_
   refine gR (aX (u := iV x8.Kind) 0 rfl ai rfl hx8 dv (fun _ _ _ h => by rw [show _ = _ from h]; rfl)) ?_
   refine run ?_
   obtain ⟨b9, hb9, h⟩ := aa h
   refine aw 8 32 b9 ?_ ?_
   ·clear h
    refine ax 24 rfl (fun g9 => ?_) (fun g9 => ?_)
    ·have h := ag g9 hb9
     refine run ?_
     obtain rfl := ak h
     exact ad sA (ab [0] 1 rfl rfl)
    have h := ah g9 hb9
    refine run ?_
    obtain ⟨q10, h⟩ := ao h
    refine kc (aN rfl rfl q10.1 q10.2) rfl (cO g9 rfl) rfl ?_
    obtain ⟨x11, hx11, h⟩ := aa h
    obtain ⟨lx11, ux11, hx11⟩ := ap hx11
    refine aZ (aC 0 rfl ai rfl rfl Try.underlying25 aG lx11 ux11) rfl (cO g9 rfl) rfl ?_
    refine aZ (iq 0 rfl ai rfl (bU lx11 ux11) ei) rfl (cO g9 rfl) rfl ?_
    refine aZ (aX (u := iV x11.Kind) 0 rfl ai rfl hx11 dv (fun _ _ _ h => by rw [show _ = _ from h]; rfl)) rfl (cO g9 rfl) rfl ?_
    refine run ?_
    obtain rfl := ak h
    exact ad sA (ab [0] 1 rfl rfl)
   refine run ?_
   refine ar rfl (fun g12 => ?_) (fun g12 => ?_)
   ·replace h := ag g12 h
    refine run ?_
    obtain rfl := ak h
    exact aB rfl rfl (ab [] 1 rfl rfl) ⟨rfl, rfl⟩
   replace h := ah g12 h
   refine run ?_
   obtain ⟨b13, hb13, h⟩ := aa h
   refine aw 17 52 b13 ?_ ?_
   ·clear h
    refine ax 35 rfl (fun g13 => ?_) (fun g13 => ?_)
    ·have h := ag g13 hb13
     refine run ?_
     obtain ⟨q14, h⟩ := ao h
     refine kc (aN rfl rfl q14.1 q14.2) rfl (aJ g13 rfl) rfl ?_
     obtain ⟨x15, hx15, h⟩ := aa h
     obtain ⟨lx15, ux15, hx15⟩ := ap hx15
     refine aZ (aC 0 rfl ai rfl rfl Try.underlying25 aG lx15 ux15) rfl (aJ g13 rfl) rfl ?_
     refine aZ (aO (us := [iV x15.Kind, iV x15.N, .string x15.S]) 0 rfl ai rfl hx15 bp (fun _ _ _ h => by rw [show _ = _ from h]; rfl)) rfl (aJ g13 rfl) rfl ?_
     obtain ⟨y16, hy16, h⟩ := aa h
     refine bM (al (fW hy16) mP rfl (aj) ez) rfl (aJ g13 rfl) rfl ?_
     rintro _ _ ⟨_, ⟨rfl, rfl⟩, rfl⟩
     refine run ?_
     obtain ⟨b17, hb17, h⟩ := aa h
     refine aw 8 51 b17 ?_ ?_
     ·clear h
      refine ax 43 rfl (fun g17 => ?_) (fun g17 => ?_)
      ·have h := ag g17 hb17
       refine run ?_
       obtain rfl := ak h
       exact ad sA (ab [0] 1 rfl rfl)
      have h := ah g17 hb17
      refine run ?_
      obtain ⟨q18, h⟩ := ao h
      refine kc (aN rfl rfl q18.1 q18.2) rfl (cO g17 rfl) rfl ?_
      obtain ⟨x19, hx19, h⟩ := aa h
      obtain ⟨lx19, ux19, hx19⟩ := ap hx19
      refine aZ (aC 0 rfl ai rfl rfl Try.underlying25 aG lx19 ux19) rfl (cO g17 rfl) rfl ?_
      refine aZ (aO (us := [iV x19.Kind, iV x19.N, .string x19.S]) 0 rfl ai rfl hx19 bp (fun _ _ _ h => by rw [show _ = _ from h]; rfl)) rfl (cO g17 rfl) rfl ?_
      obtain ⟨y20, hy20, h⟩ := aa h
      refine bM (al (gF hy20) mO rfl (aj) fe) rfl (cO g17 rfl) rfl ?_
      rintro _ _ ⟨_, ⟨rfl, rfl⟩, rfl⟩
      refine run ?_
      obtain rfl := ak h
      exact ad sA (ab [0] 1 rfl rfl)
     refine run ?_
     obtain rfl := ak h
     exact ad sA (ab [0] 1 rfl rfl)
    have h := ah g13 hb13
    refine run ?_
    obtain rfl := ak h
    exact ad sA (ab [0] 1 rfl rfl)
   refine run ?_
   refine ar rfl (fun g21 => ?_) (fun g21 => ?_)
   ·replace h := ag g21 h
    refine run ?_
    obtain rfl := ak h
    exact aB rfl rfl (ab [] 1 rfl rfl) ⟨rfl, rfl⟩
   replace h := ah g21 h
   refine run ?_
   obtain ⟨q22, h⟩ := ao h
   refine gE (aN rfl rfl q22.1 q22.2) ?_
   refine run ?_
   exact ⟨m5, _, _, Nat.lt_succ_self _, ⟨p6 + a1, h, rfl, rfl⟩, sA, ab [0] 1 rfl rfl⟩
  replace h := ah g7 h
  refine run ?_
  exact ⟨_, _, ⟨h, rfl, rfl⟩, sA, ab [] 1 rfl rfl⟩
 rintro _ _ ⟨h, rfl, rfl⟩
 refine run ?_
 obtain rfl := ak h
 exact aB rfl rfl (ab [] 0 rfl rfl) ⟨rfl, rfl⟩
theorem kl {r : Bool} : ∀ v post, ((fun (u : Value) (post : List Chunk) => u = .bool r ∧ post = [])) v post → ∀ c ∈ post, bX c := by
 rintro _ _ ⟨rfl, rfl⟩; exact aj
def dE (N : Nat) (a0 : DCell) (p7 : Bool) : Option Bool :=
 bif p7 then (some (decide ((a0.More.length : Int) = 0))) else (bif decide (a0.Kind = 3) then ((bif decide ((a0.More.length : Int) = 3) then ((aH a0.More 0).bind fun x12 => (cD N x12 0 9007199254740992).bind fun y13 => some y13) else (some false)).bind fun b11 => (bif b11 then ((aH a0.More 1).bind fun x15 => (bV N x15 9).bind fun y16 => some y16) else (some false)).bind fun b14 => some b14) else (bif decide (a0.Kind = 4) then ((bif decide (1 ≤ (a0.More.length : Int)) then (some (decide ((a0.More.length : Int) ≤ 4097))) else (some false)).bind fun b18 => (bif b18 then ((aH a0.More 0).bind fun x20 => (bV N x20 9).bind fun y21 => some y21) else (some false)).bind fun b19 => some b19) else (bif decide (a0.Kind = 6) then ((bif decide ((a0.More.length : Int) = 2) then ((aH a0.More 0).bind fun x24 => (cD N x24 0 3).bind fun y25 => some y25) else (some false)).bind fun b23 => (bif b23 then ((aH a0.More 1).bind fun x27 => (bV N x27 9).bind fun y28 => some y28) else (some false)).bind fun b26 => some b26) else (bif decide (a0.Kind = 7) then ((bif decide (4 ≤ (a0.More.length : Int)) then ((aH a0.More 2).bind fun x31 => (cD N x31 0 1).bind fun y32 => some y32) else (some false)).bind fun b30 => (bif b30 then ((aH a0.More 3).bind fun x34 => (cD N x34 0 9007199254740992).bind fun y35 => some y35) else (some false)).bind fun b33 => some b33) else (bif decide (a0.Kind = 8) then ((bG N a0.More 2).bind fun y37 => some y37) else (bif decide (a0.Kind = 10) then ((bif decide (1 ≤ (a0.More.length : Int)) then ((aH a0.More 0).bind fun x40 => some (decide (x40.Kind = 7))) else (some false)).bind fun b39 => (bif b39 then (bD ((0 : Int) ≤ 1 ∧ (1 : Int).toNat ≤ a0.More.length ∧ a0.More.length ≤ a0.More.length) ((bG N ((a0.More.drop ((1 : Int).toNat)).take (a0.More.length - (1 : Int).toNat)) 4).bind fun y44 => some y44)) else (some false)).bind fun b41 => some b41) else (bif decide (a0.Kind = 9) then ((bif decide (2 ≤ (a0.More.length : Int)) then ((aH a0.More 0).bind fun x47 => (cD N x47 0 2).bind fun y48 => some y48) else (some false)).bind fun b46 => some b46) else (some true))))))))
def dR (N : Nat) (a0 : DCell) : Option Bool :=
 bif decide (1048576 < (a0.More.length : Int)) then (some false) else (bif decide (a0.Kind = 2) then (some (decide ((a0.More.length : Int) ≤ 4096))) else (bif decide (a0.Kind = 1) then (dE N a0 (decide (a0.Kind = 1))) else (dE N a0 (decide (a0.Kind = 5)))))
set_option maxHeartbeats 4000000 in
theorem uz {N : Nat} {a0 : DCell} {r : Bool} (h : dR N a0 = some r) : Okc Try.prog 86 [.agg #[iV a0.Kind, iV a0.Shape, iV a0.Flags, iV a0.Age, .slice A1 n1 c1, .slice A2 n2 c2]] ([aF A1 n1 c1 a0.Slots, aF A2 n2 c2 a0.More]) (fun u post => u = .bool r ∧ post = []) := by
 refine bz Try.func86 rfl rfl ?_
 simp only [aQ]
 refine run ?_
 refine gD (aU rfl rfl) ?_
 rintro _ _ ⟨B3, rfl, rfl⟩
 refine run ?_
 refine av ?_
 refine run ?_
 refine gR (az 2 rfl ai rfl Try.underlying25) ?_
 refine run ?_
 refine ar rfl (fun g4 => ?_) (fun g4 => ?_)
 ·replace h := ag g4 h
  refine run ?_
  obtain rfl := ak h
  exact aB rfl rfl (ab [] 3 rfl rfl) ⟨rfl, rfl⟩
 replace h := ah g4 h
 refine run ?_
 refine av ?_
 refine run ?_
 refine ar rfl (fun g5 => ?_) (fun g5 => ?_)
 ·replace h := ag g5 h
  refine run ?_
  refine gR (az 2 rfl ai rfl Try.underlying25) ?_
  refine run ?_
  obtain rfl := ak h
  exact aB rfl rfl (ab [] 3 rfl rfl) ⟨rfl, rfl⟩
 replace h := ah g5 h
 refine aL (fun s L => ∃ p7, dE N a0 p7 = some r ∧ s = [(2, .bool false), (3, .slice A2 n2 c2), (10, iV a0.Kind), (16, .bool p7)] ∧ L = [aF A2 n2 c2 a0.More]) ?_ ?_
 ·refine run ?_
  refine ar rfl (fun g8 => ?_) (fun g8 => ?_)
  ·replace h := ag g8 h
   refine run ?_
   exact ⟨_, _, ⟨decide (a0.Kind = 1), h, rfl, rfl⟩, sA, ab [2] 3 rfl rfl⟩
  replace h := ah g8 h
  refine run ?_
  exact ⟨_, _, ⟨decide (a0.Kind = 5), h, rfl, rfl⟩, sA, ab [2] 3 rfl rfl⟩
 rintro _ _ ⟨p7, h, rfl, rfl⟩
 refine ar rfl (fun g9 => ?_) (fun g9 => ?_)
 ·replace h := ag g9 h
  refine run ?_
  refine gR (az 0 rfl ai rfl Try.underlying25) ?_
  refine run ?_
  obtain rfl := ak h
  exact aB rfl rfl (ab [] 1 rfl rfl) ⟨rfl, rfl⟩
 replace h := ah g9 h
 refine run ?_
 refine ar rfl (fun g10 => ?_) (fun g10 => ?_)
 ·replace h := ag g10 h
  refine run ?_
  refine gR (az 0 rfl ai rfl Try.underlying25) ?_
  refine run ?_
  obtain ⟨b11, hb11, h⟩ := aa h
  refine aw 5 32 b11 ?_ ?_
  ·clear h
   refine ax 27 rfl (fun g11 => ?_) (fun g11 => ?_)
   ·have h := ag g11 hb11
    refine run ?_
    obtain ⟨x12, hx12, h⟩ := aa h
    obtain ⟨lx12, ux12, hx12⟩ := ap hx12
    refine aZ (aC 0 rfl ai rfl rfl Try.underlying25 aG lx12 ux12) rfl (aJ g11 rfl) rfl ?_
    refine aZ (aO (us := [iV x12.Kind, iV x12.N, .string x12.S]) 0 rfl ai rfl hx12 bp (fun _ _ _ h => by rw [show _ = _ from h]; rfl)) rfl (aJ g11 rfl) rfl ?_
    obtain ⟨y13, hy13, h⟩ := aa h
    refine bM (al (gF hy13) mO rfl (aj) fe) rfl (aJ g11 rfl) rfl ?_
    rintro _ _ ⟨_, ⟨rfl, rfl⟩, rfl⟩
    refine run ?_
    obtain rfl := ak h
    exact ad sA (ab [0] 1 rfl rfl)
   have h := ah g11 hb11
   refine run ?_
   obtain rfl := ak h
   exact ad sA (ab [0] 1 rfl rfl)
  refine run ?_
  obtain ⟨b14, hb14, h⟩ := aa h
  refine aw 5 38 b14 ?_ ?_
  ·clear h
   refine ax 33 rfl (fun g14 => ?_) (fun g14 => ?_)
   ·have h := ag g14 hb14
    refine run ?_
    obtain ⟨x15, hx15, h⟩ := aa h
    obtain ⟨lx15, ux15, hx15⟩ := ap hx15
    refine aZ (aC 0 rfl ai rfl rfl Try.underlying25 aG lx15 ux15) rfl (aJ g14 rfl) rfl ?_
    refine aZ (aO (us := [iV x15.Kind, iV x15.N, .string x15.S]) 0 rfl ai rfl hx15 bp (fun _ _ _ h => by rw [show _ = _ from h]; rfl)) rfl (aJ g14 rfl) rfl ?_
    obtain ⟨y16, hy16, h⟩ := aa h
    refine bM (al (fW hy16) mP rfl (aj) ez) rfl (aJ g14 rfl) rfl ?_
    rintro _ _ ⟨_, ⟨rfl, rfl⟩, rfl⟩
    refine run ?_
    obtain rfl := ak h
    exact ad sA (ab [0] 1 rfl rfl)
   have h := ah g14 hb14
   refine run ?_
   obtain rfl := ak h
   exact ad sA (ab [0] 1 rfl rfl)
  refine run ?_
  obtain rfl := ak h
  exact aB rfl rfl (ab [] 1 rfl rfl) ⟨rfl, rfl⟩
 replace h := ah g10 h
 refine run ?_
 refine ar rfl (fun g17 => ?_) (fun g17 => ?_)
 ·replace h := ag g17 h
  refine run ?_
  refine gR (az 0 rfl ai rfl Try.underlying25) ?_
  refine run ?_
  obtain ⟨b18, hb18, h⟩ := aa h
  refine aw 4 48 b18 ?_ ?_
  ·clear h
   refine ax 44 rfl (fun g18 => ?_) (fun g18 => ?_)
   ·have h := ag g18 hb18
    refine run ?_
    refine aZ (az 0 rfl ai rfl Try.underlying25) rfl (aJ g18 rfl) rfl ?_
    refine run ?_
    obtain rfl := ak h
    exact ad sA (ab [0] 1 rfl rfl)
   have h := ah g18 hb18
   refine run ?_
   obtain rfl := ak h
   exact ad sA (ab [0] 1 rfl rfl)
  refine run ?_
  obtain ⟨b19, hb19, h⟩ := aa h
  refine aw 5 54 b19 ?_ ?_
  ·clear h
   refine ax 49 rfl (fun g19 => ?_) (fun g19 => ?_)
   ·have h := ag g19 hb19
    refine run ?_
    obtain ⟨x20, hx20, h⟩ := aa h
    obtain ⟨lx20, ux20, hx20⟩ := ap hx20
    refine aZ (aC 0 rfl ai rfl rfl Try.underlying25 aG lx20 ux20) rfl (aJ g19 rfl) rfl ?_
    refine aZ (aO (us := [iV x20.Kind, iV x20.N, .string x20.S]) 0 rfl ai rfl hx20 bp (fun _ _ _ h => by rw [show _ = _ from h]; rfl)) rfl (aJ g19 rfl) rfl ?_
    obtain ⟨y21, hy21, h⟩ := aa h
    refine bM (al (fW hy21) mP rfl (aj) ez) rfl (aJ g19 rfl) rfl ?_
    rintro _ _ ⟨_, ⟨rfl, rfl⟩, rfl⟩
    refine run ?_
    obtain rfl := ak h
    exact ad sA (ab [0] 1 rfl rfl)
   have h := ah g19 hb19
   refine run ?_
   obtain rfl := ak h
   exact ad sA (ab [0] 1 rfl rfl)
  refine run ?_
  obtain rfl := ak h
  exact aB rfl rfl (ab [] 1 rfl rfl) ⟨rfl, rfl⟩
 replace h := ah g17 h
 refine run ?_
 refine ar rfl (fun g22 => ?_) (fun g22 => ?_)
 ·replace h := ag g22 h
  refine run ?_
  refine gR (az 0 rfl ai rfl Try.underlying25) ?_
  refine run ?_
  obtain ⟨b23, hb23, h⟩ := aa h
  refine aw 5 65 b23 ?_ ?_
  ·clear h
   refine ax 60 rfl (fun g23 => ?_) (fun g23 => ?_)
   ·have h := ag g23 hb23
    refine run ?_
    obtain ⟨x24, hx24, h⟩ := aa h
    obtain ⟨lx24, ux24, hx24⟩ := ap hx24
    refine aZ (aC 0 rfl ai rfl rfl Try.underlying25 aG lx24 ux24) rfl (aJ g23 rfl) rfl ?_
    refine aZ (aO (us := [iV x24.Kind, iV x24.N, .string x24.S]) 0 rfl ai rfl hx24 bp (fun _ _ _ h => by rw [show _ = _ from h]; rfl)) rfl (aJ g23 rfl) rfl ?_
    obtain ⟨y25, hy25, h⟩ := aa h
    refine bM (al (gF hy25) mO rfl (aj) fe) rfl (aJ g23 rfl) rfl ?_
    rintro _ _ ⟨_, ⟨rfl, rfl⟩, rfl⟩
    refine run ?_
    obtain rfl := ak h
    exact ad sA (ab [0] 1 rfl rfl)
   have h := ah g23 hb23
   refine run ?_
   obtain rfl := ak h
   exact ad sA (ab [0] 1 rfl rfl)
  refine run ?_
  obtain ⟨b26, hb26, h⟩ := aa h
  refine aw 5 71 b26 ?_ ?_
  ·clear h
   refine ax 66 rfl (fun g26 => ?_) (fun g26 => ?_)
   ·have h := ag g26 hb26
    refine run ?_
    obtain ⟨x27, hx27, h⟩ := aa h
    obtain ⟨lx27, ux27, hx27⟩ := ap hx27
    refine aZ (aC 0 rfl ai rfl rfl Try.underlying25 aG lx27 ux27) rfl (aJ g26 rfl) rfl ?_
    refine aZ (aO (us := [iV x27.Kind, iV x27.N, .string x27.S]) 0 rfl ai rfl hx27 bp (fun _ _ _ h => by rw [show _ = _ from h]; rfl)) rfl (aJ g26 rfl) rfl ?_
    obtain ⟨y28, hy28, h⟩ := aa h
    refine bM (al (fW hy28) mP rfl (aj) ez) rfl (aJ g26 rfl) rfl ?_
    rintro _ _ ⟨_, ⟨rfl, rfl⟩, rfl⟩
    refine run ?_
    obtain rfl := ak h
    exact ad sA (ab [0] 1 rfl rfl)
   have h := ah g26 hb26
   refine run ?_
   obtain rfl := ak h
   exact ad sA (ab [0] 1 rfl rfl)
  refine run ?_
  obtain rfl := ak h
  exact aB rfl rfl (ab [] 1 rfl rfl) ⟨rfl, rfl⟩
 replace h := ah g22 h
 refine run ?_
 refine ar rfl (fun g29 => ?_) (fun g29 => ?_)
 ·replace h := ag g29 h
  refine run ?_
  refine gR (az 0 rfl ai rfl Try.underlying25) ?_
  refine run ?_
  obtain ⟨b30, hb30, h⟩ := aa h
  refine aw 5 82 b30 ?_ ?_
  ·clear h
   refine ax 77 rfl (fun g30 => ?_) (fun g30 => ?_)
   ·have h := ag g30 hb30
    refine run ?_
    obtain ⟨x31, hx31, h⟩ := aa h
    obtain ⟨lx31, ux31, hx31⟩ := ap hx31
    refine aZ (aC 0 rfl ai rfl rfl Try.underlying25 aG lx31 ux31) rfl (aJ g30 rfl) rfl ?_
    refine aZ (aO (us := [iV x31.Kind, iV x31.N, .string x31.S]) 0 rfl ai rfl hx31 bp (fun _ _ _ h => by rw [show _ = _ from h]; rfl)) rfl (aJ g30 rfl) rfl ?_
    obtain ⟨y32, hy32, h⟩ := aa h
    refine bM (al (gF hy32) mO rfl (aj) fe) rfl (aJ g30 rfl) rfl ?_
    rintro _ _ ⟨_, ⟨rfl, rfl⟩, rfl⟩
    refine run ?_
    obtain rfl := ak h
    exact ad sA (ab [0] 1 rfl rfl)
   have h := ah g30 hb30
   refine run ?_
   obtain rfl := ak h
   exact ad sA (ab [0] 1 rfl rfl)
  refine run ?_
  obtain ⟨b33, hb33, h⟩ := aa h
  refine aw 5 88 b33 ?_ ?_
  ·clear h
   refine ax 83 rfl (fun g33 => ?_) (fun g33 => ?_)
   ·have h := ag g33 hb33
    refine run ?_
    obtain ⟨x34, hx34, h⟩ := aa h
    obtain ⟨lx34, ux34, hx34⟩ := ap hx34
    refine aZ (aC 0 rfl ai rfl rfl Try.underlying25 aG lx34 ux34) rfl (aJ g33 rfl) rfl ?_
    refine aZ (aO (us := [iV x34.Kind, iV x34.N, .string x34.S]) 0 rfl ai rfl hx34 bp (fun _ _ _ h => by rw [show _ = _ from h]; rfl)) rfl (aJ g33 rfl) rfl ?_
    obtain ⟨y35, hy35, h⟩ := aa h
    refine bM (al (gF hy35) mO rfl (aj) fe) rfl (aJ g33 rfl) rfl ?_
    rintro _ _ ⟨_, ⟨rfl, rfl⟩, rfl⟩
    refine run ?_
    obtain rfl := ak h
    exact ad sA (ab [0] 1 rfl rfl)
   have h := ah g33 hb33
   refine run ?_
   obtain rfl := ak h
   exact ad sA (ab [0] 1 rfl rfl)
  refine run ?_
  obtain rfl := ak h
  exact aB rfl rfl (ab [] 1 rfl rfl) ⟨rfl, rfl⟩
 replace h := ah g29 h
 refine run ?_
 refine ar rfl (fun g36 => ?_) (fun g36 => ?_)
 ·replace h := ag g36 h
  refine run ?_
  obtain ⟨y37, hy37, h⟩ := aa h
  refine gD (al (lP hy37) xu rfl (mem_cons (am (i := 0) rfl rfl) aj) kl) ?_
  rintro _ _ ⟨_, ⟨rfl, rfl⟩, rfl⟩
  refine run ?_
  obtain rfl := ak h
  exact aB rfl rfl (ab [] 1 rfl rfl) ⟨rfl, rfl⟩
 replace h := ah g36 h
 refine run ?_
 refine ar rfl (fun g38 => ?_) (fun g38 => ?_)
 ·replace h := ag g38 h
  refine run ?_
  refine gR (az 0 rfl ai rfl Try.underlying25) ?_
  refine run ?_
  obtain ⟨b39, hb39, h⟩ := aa h
  refine aw 6 104 b39 ?_ ?_
  ·clear h
   refine ax 98 rfl (fun g39 => ?_) (fun g39 => ?_)
   ·have h := ag g39 hb39
    refine run ?_
    obtain ⟨x40, hx40, h⟩ := aa h
    obtain ⟨lx40, ux40, hx40⟩ := ap hx40
    refine aZ (aC 0 rfl ai rfl rfl Try.underlying25 aG lx40 ux40) rfl (aJ g39 rfl) rfl ?_
    refine aZ (iq 0 rfl ai rfl (bU lx40 ux40) ei) rfl (aJ g39 rfl) rfl ?_
    refine aZ (aX (u := iV x40.Kind) 0 rfl ai rfl hx40 dv (fun _ _ _ h => by rw [show _ = _ from h]; rfl)) rfl (aJ g39 rfl) rfl ?_
    refine run ?_
    obtain rfl := ak h
    exact ad sA (ab [0] 1 rfl rfl)
   have h := ah g39 hb39
   refine run ?_
   obtain rfl := ak h
   exact ad sA (ab [0] 1 rfl rfl)
  refine run ?_
  obtain ⟨b41, hb41, h⟩ := aa h
  refine aw 4 109 b41 ?_ ?_
  ·clear h
   refine ax 105 rfl (fun g41 => ?_) (fun g41 => ?_)
   ·have h := ag g41 hb41
    refine run ?_
    obtain ⟨q42, h⟩ := ao h
    refine BX 0 rfl (l := (1 : Int).toNat) (h := a0.More.length) q42.2.1 q42.2.2 ?_
    rintro A43 n43 c43 e43
    refine aZ (th 1 rfl e43 rfl Try.underlying25 aG rfl (by rw [Int.toNat_of_nonneg q42.1]; rfl) q42.2.1) rfl (aJ g41 rfl) rfl ?_
    obtain ⟨y44, hy44, h⟩ := aa h
    refine bM (al (lP hy44) xu rfl (mem_cons (am (i := 0) rfl rfl) aj) kl) rfl (aJ g41 rfl) rfl ?_
    rintro _ _ ⟨_, ⟨rfl, rfl⟩, rfl⟩
    refine run ?_
    obtain rfl := ak h
    exact ad sA (ab [1] 2 rfl rfl)
   have h := ah g41 hb41
   refine run ?_
   obtain rfl := ak h
   exact ad sA (ab [0] 1 rfl rfl)
  refine run ?_
  obtain rfl := ak h
  exact aB rfl rfl (ab [] 1 rfl rfl) ⟨rfl, rfl⟩
 replace h := ah g38 h
 refine run ?_
 refine ar rfl (fun g45 => ?_) (fun g45 => ?_)
 ·replace h := ag g45 h
  refine run ?_
  refine gR (az 0 rfl ai rfl Try.underlying25) ?_
  refine run ?_
  obtain ⟨b46, hb46, h⟩ := aa h
  refine aw 5 120 b46 ?_ ?_
  ·clear h
   refine ax 115 rfl (fun g46 => ?_) (fun g46 => ?_)
   ·have h := ag g46 hb46
    refine run ?_
    obtain ⟨x47, hx47, h⟩ := aa h
    obtain ⟨lx47, ux47, hx47⟩ := ap hx47
    refine aZ (aC 0 rfl ai rfl rfl Try.underlying25 aG lx47 ux47) rfl (aJ g46 rfl) rfl ?_
    refine aZ (aO (us := [iV x47.Kind, iV x47.N, .string x47.S]) 0 rfl ai rfl hx47 bp (fun _ _ _ h => by rw [show _ = _ from h]; rfl)) rfl (aJ g46 rfl) rfl ?_
    obtain ⟨y48, hy48, h⟩ := aa h
    refine bM (al (gF hy48) mO rfl (aj) fe) rfl (aJ g46 rfl) rfl ?_
    rintro _ _ ⟨_, ⟨rfl, rfl⟩, rfl⟩
    refine run ?_
    obtain rfl := ak h
    exact ad sA (ab [0] 1 rfl rfl)
   have h := ah g46 hb46
   refine run ?_
   obtain rfl := ak h
   exact ad sA (ab [0] 1 rfl rfl)
  refine run ?_
  obtain rfl := ak h
  exact aB rfl rfl (ab [] 1 rfl rfl) ⟨rfl, rfl⟩
 replace h := ah g45 h
 refine run ?_
 obtain rfl := ak h
 exact aB rfl rfl (ab [] 1 rfl rfl) ⟨rfl, rfl⟩
theorem rX {r : Bool} : ∀ v post, ((fun (u : Value) (post : List Chunk) => u = .bool r ∧ post = [])) v post → ∀ c ∈ post, bX c := by
 rintro _ _ ⟨rfl, rfl⟩; exact aj
def bH (N : Nat) (a0 : DCell) : Option Bool :=
 (cX N a0).bind fun y27 => (bif y27 then ((dR N a0).bind fun y29 => some y29) else (some false)).bind fun b28 => some b28
def r15_Right_l20 (N : Nat) (a0 : DCell) : Nat → Int → Option Bool
 | 0, _ => none
 | m20 + 1, p21 => bif decide (p21 < (a0.More.length : Int)) then ((aH a0.More p21).bind fun x23 => (df N x23).bind fun y24 => bif !y24 then (some false) else (bD (aK (p21 + 1)) ((r15_Right_l20 N a0 m20) (p21 + 1)))) else (bH N a0)
def jQ (N : Nat) (a0 : DCell) : Option Bool :=
 r15_Right_l20 N a0 N 0
def r15_Right_l12 (N : Nat) (a0 : DCell) : Nat → Int → Option Bool
 | 0, _ => none
 | m12 + 1, p13 => bif decide (p13 < (a0.Slots.length : Int)) then ((aH a0.Slots p13).bind fun x15 => (df N x15).bind fun y16 => bif !y16 then (some false) else (bD (aK (p13 + 1)) ((r15_Right_l12 N a0 m12) (p13 + 1)))) else (jQ N a0)
def bI (N : Nat) (a0 : DCell) : Option Bool :=
 (bif decide (a0.Kind < 1) then (some true) else (some (decide (11 < a0.Kind)))).bind fun b4 => (bif b4 then (some true) else (some (decide (a0.Shape < 0)))).bind fun b5 => (bif b5 then (some true) else (some (decide (a0.Flags < 0)))).bind fun b6 => (bif b6 then (some true) else (some (decide (63 < a0.Flags)))).bind fun b7 => (bif b7 then (some true) else (some (decide (a0.Age < 0)))).bind fun b8 => (bif b8 then (some true) else (some (decide (1 < a0.Age)))).bind fun b9 => bif b9 then (some false) else (r15_Right_l12 N a0 N 0)
theorem tu {N : Nat} {a0 : DCell} {r : Bool} (h : bI N a0 = some r) : Okc Try.prog 45 [.agg #[iV a0.Kind, iV a0.Shape, iV a0.Flags, iV a0.Age, .slice A1 n1 c1, .slice A2 n2 c2]] ([aF A1 n1 c1 a0.Slots, aF A2 n2 c2 a0.More]) (fun u post => u = .bool r ∧ post = []) := by
 refine bz Try.func45 rfl rfl ?_
 simp only [aQ]
 refine run ?_
 refine gD (aU rfl rfl) ?_
 rintro _ _ ⟨B3, rfl, rfl⟩
 refine run ?_
 refine av ?_
 refine run ?_
 obtain ⟨b4, hb4, h⟩ := aa h
 refine aw 4 12 b4 ?_ ?_
 ·clear h
  refine ax 8 rfl (fun g4 => ?_) (fun g4 => ?_)
  ·have h := ag g4 hb4
   refine run ?_
   obtain rfl := ak h
   exact ad sA (ab [0, 1, 2] 3 rfl rfl)
  have h := ah g4 hb4
  refine run ?_
  obtain rfl := ak h
  exact ad sA (ab [0, 1, 2] 3 rfl rfl)
 refine run ?_
 obtain ⟨b5, hb5, h⟩ := aa h
 refine aw 4 17 b5 ?_ ?_
 ·clear h
  refine ax 13 rfl (fun g5 => ?_) (fun g5 => ?_)
  ·have h := ag g5 hb5
   refine run ?_
   obtain rfl := ak h
   exact ad sA (ab [0, 1, 2] 3 rfl rfl)
  have h := ah g5 hb5
  refine run ?_
  obtain rfl := ak h
  exact ad sA (ab [0, 1, 2] 3 rfl rfl)
 refine run ?_
 obtain ⟨b6, hb6, h⟩ := aa h
 refine aw 4 22 b6 ?_ ?_
 ·clear h
  refine ax 18 rfl (fun g6 => ?_) (fun g6 => ?_)
  ·have h := ag g6 hb6
   refine run ?_
   obtain rfl := ak h
   exact ad sA (ab [0, 1, 2] 3 rfl rfl)
  have h := ah g6 hb6
  refine run ?_
  obtain rfl := ak h
  exact ad sA (ab [0, 1, 2] 3 rfl rfl)
 refine run ?_
 obtain ⟨b7, hb7, h⟩ := aa h
 refine aw 4 27 b7 ?_ ?_
 ·clear h
  refine ax 23 rfl (fun g7 => ?_) (fun g7 => ?_)
  ·have h := ag g7 hb7
   refine run ?_
   obtain rfl := ak h
   exact ad sA (ab [0, 1, 2] 3 rfl rfl)
  have h := ah g7 hb7
  refine run ?_
  obtain rfl := ak h
  exact ad sA (ab [0, 1, 2] 3 rfl rfl)
 refine run ?_
 obtain ⟨b8, hb8, h⟩ := aa h
 refine aw 4 32 b8 ?_ ?_
 ·clear h
  refine ax 28 rfl (fun g8 => ?_) (fun g8 => ?_)
  ·have h := ag g8 hb8
   refine run ?_
   obtain rfl := ak h
   exact ad sA (ab [0, 1, 2] 3 rfl rfl)
  have h := ah g8 hb8
  refine run ?_
  obtain rfl := ak h
  exact ad sA (ab [0, 1, 2] 3 rfl rfl)
 refine run ?_
 obtain ⟨b9, hb9, h⟩ := aa h
 refine aw 4 37 b9 ?_ ?_
 ·clear h
  refine ax 33 rfl (fun g9 => ?_) (fun g9 => ?_)
  ·have h := ag g9 hb9
   refine run ?_
   obtain rfl := ak h
   exact ad sA (ab [0, 1, 2] 3 rfl rfl)
  have h := ah g9 hb9
  refine run ?_
  obtain rfl := ak h
  exact ad sA (ab [0, 1, 2] 3 rfl rfl)
 refine run ?_
 refine ar rfl (fun g10 => ?_) (fun g10 => ?_)
 ·replace h := ag g10 h
  refine run ?_
  obtain rfl := ak h
  exact aB rfl rfl (ab [] 3 rfl rfl) ⟨rfl, rfl⟩
 replace h := ah g10 h
 refine run ?_
 refine aL (fun s L => jQ N a0 = some r ∧ s = [(1, pV B3 0), (2, .bool false)] ∧ L = [aF A1 n1 c1 a0.Slots, aF A2 n2 c2 a0.More, aq B3 42 [iV a0.Kind, iV a0.Shape, iV a0.Flags, iV a0.Age, .slice A1 n1 c1, .slice A2 n2 c2]]) ?_ ?_
 ·refine run ?_
  refine bc (fun m s L => ∃ p13, r15_Right_l12 N a0 m p13 = some r ∧ s = [(1, pV B3 0), (2, .bool false), (3, iV p13)] ∧ L = [aF A1 n1 c1 a0.Slots, aF A2 n2 c2 a0.More, aq B3 42 [iV a0.Kind, iV a0.Shape, iV a0.Flags, iV a0.Age, .slice A1 n1 c1, .slice A2 n2 c2]]) N _ _ ⟨0, h, rfl, rfl⟩ sA (ab [1, 2, 0] 3 rfl rfl) ?_
  rintro (_ | m12) _ _ ⟨p13, h, rfl, rfl⟩
  ·exact aA h
  rw [r15_Right_l12.eq_2] at h
  refine av ?_
  refine run ?_
  refine gR (az 0 rfl ai rfl Try.underlying25) ?_
  refine run ?_
  refine ar rfl (fun g14 => ?_) (fun g14 => ?_)
  ·replace h := ag g14 h
   refine run ?_
   refine av ?_
   refine run ?_
   obtain ⟨x15, hx15, h⟩ := aa h
   obtain ⟨lx15, ux15, hx15⟩ := ap hx15
   refine gR (aC 0 rfl ai rfl rfl Try.underlying25 aG lx15 ux15) ?_
   refine gR (aO (us := [iV x15.Kind, iV x15.N, .string x15.S]) 0 rfl ai rfl hx15 bp (fun _ _ _ h => by rw [show _ = _ from h]; rfl)) ?_
   obtain ⟨y16, hy16, h⟩ := aa h
   refine gD (al (rb hy16) zG rfl (aj) oo) ?_
   rintro _ _ ⟨_, ⟨rfl, rfl⟩, rfl⟩
   refine run ?_
   refine ar rfl (fun g17 => ?_) (fun g17 => ?_)
   ·replace h := ag g17 h
    refine run ?_
    obtain rfl := ak h
    exact aB rfl rfl (ab [] 3 rfl rfl) ⟨rfl, rfl⟩
   replace h := ah g17 h
   refine run ?_
   obtain ⟨q18, h⟩ := ao h
   refine gE (aN rfl rfl q18.1 q18.2) ?_
   refine run ?_
   exact ⟨m12, _, _, Nat.lt_succ_self _, ⟨p13 + 1, h, rfl, rfl⟩, sA, ab [0, 1, 2] 3 rfl rfl⟩
  replace h := ah g14 h
  refine run ?_
  exact ⟨_, _, ⟨h, rfl, rfl⟩, sA, ab [0, 1, 2] 3 rfl rfl⟩
 rintro _ _ ⟨h, rfl, rfl⟩
 refine aL (fun s L => bH N a0 = some r ∧ s = [(1, pV B3 0), (2, .bool false)] ∧ L = [aF A1 n1 c1 a0.Slots, aF A2 n2 c2 a0.More, aq B3 42 [iV a0.Kind, iV a0.Shape, iV a0.Flags, iV a0.Age, .slice A1 n1 c1, .slice A2 n2 c2]]) ?_ ?_
 ·refine run ?_
  refine bc (fun m s L => ∃ p21, r15_Right_l20 N a0 m p21 = some r ∧ s = [(1, pV B3 0), (2, .bool false), (4, iV p21)] ∧ L = [aF A1 n1 c1 a0.Slots, aF A2 n2 c2 a0.More, aq B3 42 [iV a0.Kind, iV a0.Shape, iV a0.Flags, iV a0.Age, .slice A1 n1 c1, .slice A2 n2 c2]]) N _ _ ⟨0, h, rfl, rfl⟩ sA (ab [0, 1, 2] 3 rfl rfl) ?_
  rintro (_ | m20) _ _ ⟨p21, h, rfl, rfl⟩
  ·exact aA h
  rw [r15_Right_l20.eq_2] at h
  refine av ?_
  refine run ?_
  refine gR (az 1 rfl ai rfl Try.underlying25) ?_
  refine run ?_
  refine ar rfl (fun g22 => ?_) (fun g22 => ?_)
  ·replace h := ag g22 h
   refine run ?_
   refine av ?_
   refine run ?_
   obtain ⟨x23, hx23, h⟩ := aa h
   obtain ⟨lx23, ux23, hx23⟩ := ap hx23
   refine gR (aC 1 rfl ai rfl rfl Try.underlying25 aG lx23 ux23) ?_
   refine gR (aO (us := [iV x23.Kind, iV x23.N, .string x23.S]) 1 rfl ai rfl hx23 bp (fun _ _ _ h => by rw [show _ = _ from h]; rfl)) ?_
   obtain ⟨y24, hy24, h⟩ := aa h
   refine gD (al (rb hy24) zG rfl (aj) oo) ?_
   rintro _ _ ⟨_, ⟨rfl, rfl⟩, rfl⟩
   refine run ?_
   refine ar rfl (fun g25 => ?_) (fun g25 => ?_)
   ·replace h := ag g25 h
    refine run ?_
    obtain rfl := ak h
    exact aB rfl rfl (ab [] 3 rfl rfl) ⟨rfl, rfl⟩
   replace h := ah g25 h
   refine run ?_
   obtain ⟨q26, h⟩ := ao h
   refine gE (aN rfl rfl q26.1 q26.2) ?_
   refine run ?_
   exact ⟨m20, _, _, Nat.lt_succ_self _, ⟨p21 + 1, h, rfl, rfl⟩, sA, ab [0, 1, 2] 3 rfl rfl⟩
  replace h := ah g22 h
  refine run ?_
  exact ⟨_, _, ⟨h, rfl, rfl⟩, sA, ab [0, 1, 2] 3 rfl rfl⟩
 rintro _ _ ⟨h, rfl, rfl⟩
 refine run ?_
 refine gR (aE (us := [iV a0.Kind, iV a0.Shape, iV a0.Flags, iV a0.Age, .slice A1 n1 c1, .slice A2 n2 c2]) 2 rfl rfl ba rfl) ?_
 obtain ⟨y27, hy27, h⟩ := aa h
 refine gD (al (tt hy27) Cs rfl (mem_cons (am (i := 0) rfl rfl) (mem_cons (am (i := 1) rfl rfl) aj)) qY) ?_
 rintro _ _ ⟨_, ⟨rfl, rfl⟩, rfl⟩
 refine run ?_
 obtain ⟨b28, hb28, h⟩ := aa h
 refine aw 3 71 b28 ?_ ?_
 ·clear h
  refine ax 68 rfl (fun g28 => ?_) (fun g28 => ?_)
  ·have h := ag g28 hb28
   refine aZ (aE (us := [iV a0.Kind, iV a0.Shape, iV a0.Flags, iV a0.Age, .slice A1 n1 c1, .slice A2 n2 c2]) 2 rfl rfl ba rfl) rfl (aJ g28 rfl) rfl ?_
   obtain ⟨y29, hy29, h⟩ := aa h
   refine bM (al (uz hy29) Cr rfl (mem_cons (am (i := 0) rfl rfl) (mem_cons (am (i := 1) rfl rfl) aj)) rX) rfl (aJ g28 rfl) rfl ?_
   rintro _ _ ⟨_, ⟨rfl, rfl⟩, rfl⟩
   refine run ?_
   obtain rfl := ak h
   exact ad sA (ab [0, 1, 2] 3 rfl rfl)
  have h := ah g28 hb28
  refine run ?_
  obtain rfl := ak h
  exact ad sA (ab [0, 1, 2] 3 rfl rfl)
 refine run ?_
 obtain rfl := ak h
 exact aB rfl rfl (ab [] 3 rfl rfl) ⟨rfl, rfl⟩
theorem qZ {r : Bool} : ∀ v post, ((fun (u : Value) (post : List Chunk) => u = .bool r ∧ post = [])) v post → ∀ c ∈ post, bX c := by
 rintro _ _ ⟨rfl, rfl⟩; exact aj
def pO (N : Nat) : Option Bool :=
 some true
def gg (N : Nat) (kb10 : Int → Option Bool) (p11 : Int) (a0 : DMemory) (p16 : Int) (p17 : Int) (p18 : Int) (p19 : Int) (p20 : (List DValue)) (p21 : (List DValue)) : Option Bool :=
 (bI N (⟨p16, p17, p18, p19, p20, p21⟩ : DCell)).bind fun y32 => (bif !y32 then (some true) else ((eR N (⟨p16, p17, p18, p19, p20, p21⟩ : DCell)).bind fun y34 => (fU N a0 y34).bind fun y36 => some (!y36))).bind fun b33 => (bif b33 then (some true) else ((fg N (⟨p16, p17, p18, p19, p20, p21⟩ : DCell)).bind fun y38 => (fU N a0 y38).bind fun y40 => some (!y40))).bind fun b37 => bif b37 then (some false) else (bD (aK (p11 + 1)) (kb10 (p11 + 1)))
def r20_Fine_l10 (N : Nat) (a0 : DMemory) : Nat → Int → Option Bool
 | 0, _ => none
 | m10 + 1, p11 => bD (aK ((a0.Young.length : Int) + (a0.Old.length : Int))) (bif decide (p11 < (a0.Young.length : Int) + (a0.Old.length : Int)) then (bif decide (p11 < (a0.Young.length : Int)) then ((aH a0.Young p11).bind fun x23 => gg N (r20_Fine_l10 N a0 m10) p11 a0 x23.Kind x23.Shape x23.Flags x23.Age x23.Slots x23.More) else (bD (aK (p11 - (a0.Young.length : Int))) ((aH a0.Old (p11 - (a0.Young.length : Int))).bind fun x28 => gg N (r20_Fine_l10 N a0 m10) p11 a0 x28.Kind x28.Shape x28.Flags x28.Age x28.Slots x28.More))) else (pO N))
def jc (N : Nat) (a0 : DMemory) (a1 : (List DValue)) : Option Bool :=
 (jF N a1).bind fun y5 => (fU N a0 y5).bind fun y7 => bif !y7 then (some false) else (r20_Fine_l10 N a0 N 0)
theorem pN {N : Nat} {a0 : DMemory} {a1 : (List DValue)} {r : Bool} (h : jc N a0 a1 = some r) : Okc Try.prog 11 [.agg #[.slice A1 n1 c1, .slice A2 n2 c2], .slice A3 n3 c3] ([aR A1 n1 c1 a0.Young, aR A2 n2 c2 a0.Old, aF A3 n3 c3 a1]) (fun u post => u = .bool r ∧ post = []) := by
 refine bz Try.func11 rfl rfl ?_
 simp only [aQ]
 refine run ?_
 refine gD (aU rfl rfl) ?_
 rintro _ _ ⟨B4, rfl, rfl⟩
 refine run ?_
 refine av ?_
 refine av ?_
 refine dY (by kernel_rfl) _ (ac _) ?_
 refine bL 0 rfl (by kernel_rfl) (aE (us := [.slice A1 n1 c1, .slice A2 n2 c2]) 0 rfl rfl ex rfl) rfl rfl ?_
 refine aW 1 rfl (by kernel_rfl) (aI rfl) rfl rfl ?_
 obtain ⟨y5, hy5, h⟩ := aa h
 refine ea 2 rfl (by kernel_rfl) (al (ti hy5) CE rfl (mem_cons (am (i := 3) rfl rfl) aj) qW) rfl rfl rfl ?_
 rintro _ _ ⟨_, ⟨A6, n6, c6, rfl, rfl⟩, rfl⟩
 refine ⟨[aq B4 24 [.slice A1 n1 c1, .slice A2 n2 c2], aR A1 n1 c1 a0.Young, aR A2 n2 c2 a0.Old, aF A3 n3 c3 a1], ab [1, 2, 3, 4] 5 rfl rfl, ac _, ?_⟩
 obtain ⟨y7, hy7, h⟩ := aa h
 refine ea 3 rfl (by kernel_rfl) (al (kI hy7) wx rfl (mem_cons (am (i := 2) rfl rfl) (mem_cons (am (i := 3) rfl rfl) (mem_cons (cC (i := 0) rfl) aj))) jb) rfl rfl rfl ?_
 rintro _ _ ⟨_, ⟨rfl, rfl⟩, rfl⟩
 refine ⟨[aq B4 24 [.slice A1 n1 c1, .slice A2 n2 c2], aR A1 n1 c1 a0.Young, aR A2 n2 c2 a0.Old, aF A3 n3 c3 a1], ab [1, 2, 3, 4] 5 rfl rfl, ac _, ?_⟩
 refine aW 4 rfl (by kernel_rfl) (kX rfl) rfl rfl ?_
 refine dX (by kernel_rfl) ?_
 refine kO ?_
 refine ar rfl (fun g8 => ?_) (fun g8 => ?_)
 ·replace h := ag g8 h
  refine run ?_
  obtain rfl := ak h
  exact aB rfl rfl (ab [] 5 rfl rfl) ⟨rfl, rfl⟩
 replace h := ah g8 h
 refine run ?_
 refine aL (fun s L => pO N = some r ∧ s = [(4, .bool false)] ∧ L = []) ?_ ?_
 ·refine run ?_
  refine bc (fun m s L => ∃ p11, r20_Fine_l10 N a0 m p11 = some r ∧ s = [(2, pV B4 0), (4, .bool false), (5, iV p11)] ∧ L = [aR A1 n1 c1 a0.Young, aR A2 n2 c2 a0.Old, aq B4 24 [.slice A1 n1 c1, .slice A2 n2 c2]]) N _ _ ⟨0, h, rfl, rfl⟩ sA (ab [2, 3, 1] 5 rfl rfl) ?_
  rintro (_ | m10) _ _ ⟨p11, h, rfl, rfl⟩
  ·exact aA h
  rw [r20_Fine_l10.eq_2] at h
  refine av ?_
  refine run ?_
  refine gR (az 0 rfl ai rfl Try.underlying22) ?_
  refine run ?_
  refine gR (az 1 rfl ai rfl Try.underlying22) ?_
  obtain ⟨q12, h⟩ := ao h
  refine gE (aN rfl rfl q12.1 q12.2) ?_
  refine run ?_
  refine ar rfl (fun g13 => ?_) (fun g13 => ?_)
  ·replace h := ag g13 h
   refine run ?_
   refine av ?_
   refine run ?_
   refine gE (dJ rfl (tZ)) ?_
   refine gD (aS ed rfl) ?_
   rintro _ _ ⟨B14, rfl, rfl⟩
   refine gO (ay (us := [iV 0, iV 0, iV 0, iV 0, .slice none 0 0, .slice none 0 0]) (cs' := [iV 0, iV 0, iV 0, iV 0, .slice none 0 0, .slice none 0 0]) 0 rfl rfl rfl rfl bq rfl rfl rfl) ?_
   rintro _ _ rfl
   refine run ?_
   refine aL (fun s L => ∃ p16 p17 p18 p19 p20 p21 A20 n20 c20 A21 n21 c21, gg N (r20_Fine_l10 N a0 m10) p11 a0 p16 p17 p18 p19 p20 p21 = some r ∧ s = [(2, pV B4 0), (4, .bool false), (5, iV p11), (6, pV B14 0)] ∧ L = [aR A1 n1 c1 a0.Young, aR A2 n2 c2 a0.Old, aq B4 24 [.slice A1 n1 c1, .slice A2 n2 c2], aF A20 n20 c20 p20, aF A21 n21 c21 p21, aq B14 42 [iV p16, iV p17, iV p18, iV p19, .slice A20 n20 c20, .slice A21 n21 c21]]) ?_ ?_
   ·refine run ?_
    refine gR (az 1 rfl ai rfl Try.underlying22) ?_
    refine run ?_
    refine ar rfl (fun g22 => ?_) (fun g22 => ?_)
    ·replace h := ag g22 h
     refine run ?_
     obtain ⟨x23, hx23, h⟩ := aa h
     obtain ⟨lx23, ux23, hx23⟩ := ap hx23
     refine gR (aC 1 rfl ai rfl rfl Try.underlying22 bq lx23 ux23) ?_
     refine rM 1 rfl hx23 (cE x23) ?_
     rintro _ _ ⟨A24, n24, c24, A25, n25, c25, rfl, rfl⟩
     refine gR (gc (us := [iV x23.Kind, iV x23.Shape, iV x23.Flags, iV x23.Age, .slice A24 n24 c24, .slice A25 n25 c25]) 0 rfl rfl ba rfl) ?_
     refine gO (ay (us := [iV x23.Kind, iV x23.Shape, iV x23.Flags, iV x23.Age, .slice A24 n24 c24, .slice A25 n25 c25]) (cs' := [iV x23.Kind, iV x23.Shape, iV x23.Flags, iV x23.Age, .slice A24 n24 c24, .slice A25 n25 c25]) 3 rfl rfl rfl rfl bq rfl rfl rfl) ?_
     rintro _ _ rfl
     refine run ?_
     exact ⟨_, _, ⟨x23.Kind, x23.Shape, x23.Flags, x23.Age, x23.Slots, x23.More, A24, n24, c24, A25, n25, c25, h, rfl, rfl⟩, sA, ab [4, 5, 6, 1, 2, 3] 7 rfl rfl⟩
    replace h := ah g22 h
    refine run ?_
    refine gR (az 1 rfl ai rfl Try.underlying22) ?_
    obtain ⟨q27, h⟩ := ao h
    refine gE (jV rfl rfl q27.1 q27.2) ?_
    obtain ⟨x28, hx28, h⟩ := aa h
    obtain ⟨lx28, ux28, hx28⟩ := ap hx28
    refine gR (aC 2 rfl ai rfl rfl Try.underlying22 bq lx28 ux28) ?_
    refine rM 2 rfl hx28 (cE x28) ?_
    rintro _ _ ⟨A29, n29, c29, A30, n30, c30, rfl, rfl⟩
    refine gR (gc (us := [iV x28.Kind, iV x28.Shape, iV x28.Flags, iV x28.Age, .slice A29 n29 c29, .slice A30 n30 c30]) 0 rfl rfl ba rfl) ?_
    refine gO (ay (us := [iV x28.Kind, iV x28.Shape, iV x28.Flags, iV x28.Age, .slice A29 n29 c29, .slice A30 n30 c30]) (cs' := [iV x28.Kind, iV x28.Shape, iV x28.Flags, iV x28.Age, .slice A29 n29 c29, .slice A30 n30 c30]) 3 rfl rfl rfl rfl bq rfl rfl rfl) ?_
    rintro _ _ rfl
    refine ck ([ki (bK (.slice A2 n2 c2) ((p11 - (a0.Young.length : Int)).toNat) 6 0) [iV x28.Kind, iV x28.Shape, iV x28.Flags, iV x28.Age, .slice A29 n29 c29, .slice A30 n30 c30], aF A29 n29 c29 x28.Slots, aF A30 n30 c30 x28.More, aq B14 42 [iV x28.Kind, iV x28.Shape, iV x28.Flags, iV x28.Age, .slice A29 n29 c29, .slice A30 n30 c30], aR A1 n1 c1 a0.Young, aR A2 n2 c2 a0.Old, aq B4 24 [.slice A1 n1 c1, .slice A2 n2 c2]]) rfl ?_
    refine run ?_
    exact ⟨_, _, ⟨x28.Kind, x28.Shape, x28.Flags, x28.Age, x28.Slots, x28.More, A29, n29, c29, A30, n30, c30, h, rfl, rfl⟩, sA, ab [4, 5, 6, 1, 2, 3] 7 rfl rfl⟩
   rintro _ _ ⟨p16, p17, p18, p19, p20, p21, A20, n20, c20, A21, n21, c21, h, rfl, rfl⟩
   refine av ?_
   refine dY (by kernel_rfl) _ (ac _) ?_
   refine bL 0 rfl (by kernel_rfl) (aE (us := [iV p16, iV p17, iV p18, iV p19, .slice A20 n20 c20, .slice A21 n21 c21]) 5 rfl rfl ba rfl) rfl rfl ?_
   obtain ⟨y32, hy32, h⟩ := aa h
   refine ea 1 rfl (by kernel_rfl) (al (tu hy32) CD rfl (mem_cons (am (i := 3) rfl rfl) (mem_cons (am (i := 4) rfl rfl) aj)) qZ) rfl rfl rfl ?_
   rintro _ _ ⟨_, ⟨rfl, rfl⟩, rfl⟩
   refine ⟨_, ac _, ac _, ?_⟩
   refine aW 2 rfl (by kernel_rfl) (kX rfl) rfl rfl ?_
   refine aW 3 rfl (by kernel_rfl) (aI rfl) rfl rfl ?_
   obtain ⟨b33, hb33, h⟩ := aa h
   refine rL (fun l => ((((((l.setIfInBounds 4 true).setIfInBounds 5 true).setIfInBounds 6 true).setIfInBounds 7 true).setIfInBounds 8 true).setIfInBounds 9 true)) 7 52 b33 (fun rest => ?_) ?_
   ·clear h
    refine ue 46 rfl (fun g33 => ?_) (fun g33 => ?_)
    ·have h := ag g33 hb33
     refine kz 4 rfl (by kernel_rfl) (oJ g33 rfl) rfl ?_
     refine kz 5 rfl (by kernel_rfl) (oJ g33 rfl) rfl ?_
     refine kz 6 rfl (by kernel_rfl) (oJ g33 rfl) rfl ?_
     refine kz 7 rfl (by kernel_rfl) (oJ g33 rfl) rfl ?_
     refine kz 8 rfl (by kernel_rfl) (oJ g33 rfl) rfl ?_
     refine aW 9 rfl (by kernel_rfl) (dm g33 rfl rfl) rfl rfl ?_
     obtain rfl := ak h
     exact pF rest (gW rfl (bh (bh (bh (bh (bh (bh cI rfl) rfl) rfl) rfl) rfl) rfl)) (ac _) (ac _)
    have h := ah g33 hb33
    refine bL 4 rfl (by kernel_rfl) (aE (us := [.slice A1 n1 c1, .slice A2 n2 c2]) 2 rfl rfl ex rfl) (cO g33 rfl) rfl ?_
    refine bL 5 rfl (by kernel_rfl) (aE (us := [iV p16, iV p17, iV p18, iV p19, .slice A20 n20 c20, .slice A21 n21 c21]) 5 rfl rfl ba rfl) (cO g33 rfl) rfl ?_
    obtain ⟨y34, hy34, h⟩ := aa h
    refine ea 6 rfl (by kernel_rfl) (al (oq hy34) zU rfl (mem_cons (am (i := 3) rfl rfl) (mem_cons (am (i := 4) rfl rfl) aj)) lR) rfl (cO g33 rfl) rfl ?_
    rintro _ _ ⟨_, ⟨A35, n35, c35, rfl, rfl⟩, rfl⟩
    refine ⟨[aR A1 n1 c1 a0.Young, aR A2 n2 c2 a0.Old, aq B4 24 [.slice A1 n1 c1, .slice A2 n2 c2], aF A20 n20 c20 p20, aF A21 n21 c21 p21, aq B14 42 [iV p16, iV p17, iV p18, iV p19, .slice A20 n20 c20, .slice A21 n21 c21]], ab [1, 2, 3, 4, 5, 6] 7 rfl rfl, ac _, ?_⟩
    obtain ⟨y36, hy36, h⟩ := aa h
    refine ea 7 rfl (by kernel_rfl) (al (kI hy36) wx rfl (mem_cons (am (i := 1) rfl rfl) (mem_cons (am (i := 2) rfl rfl) (mem_cons (cC (i := 0) rfl) aj))) jb) rfl (cO g33 rfl) rfl ?_
    rintro _ _ ⟨_, ⟨rfl, rfl⟩, rfl⟩
    refine ⟨[aR A1 n1 c1 a0.Young, aR A2 n2 c2 a0.Old, aq B4 24 [.slice A1 n1 c1, .slice A2 n2 c2], aF A20 n20 c20 p20, aF A21 n21 c21 p21, aq B14 42 [iV p16, iV p17, iV p18, iV p19, .slice A20 n20 c20, .slice A21 n21 c21]], ab [1, 2, 3, 4, 5, 6] 7 rfl rfl, ac _, ?_⟩
    refine aW 8 rfl (by kernel_rfl) (kX rfl) (cO g33 rfl) rfl ?_
    refine aW 9 rfl (by kernel_rfl) (dn g33 rfl rfl) rfl rfl ?_
    obtain rfl := ak h
    exact pF rest (gW rfl (bh (bh (bh (bh (bh (bh cI rfl) rfl) rfl) rfl) rfl) rfl)) (ab [1, 2, 3, 4, 5, 6] 7 rfl rfl) (ac _)
   refine aW 10 rfl (by kernel_rfl) (aI rfl) rfl rfl ?_
   obtain ⟨b37, hb37, h⟩ := aa h
   refine rL (fun l => ((((((l.setIfInBounds 11 true).setIfInBounds 12 true).setIfInBounds 13 true).setIfInBounds 14 true).setIfInBounds 15 true).setIfInBounds 16 true)) 0 59 b37 (fun rest => ?_) ?_
   ·clear h
    refine ue 53 rfl (fun g37 => ?_) (fun g37 => ?_)
    ·have h := ag g37 hb37
     refine kz 11 rfl (by kernel_rfl) (oJ g37 rfl) rfl ?_
     refine kz 12 rfl (by kernel_rfl) (oJ g37 rfl) rfl ?_
     refine kz 13 rfl (by kernel_rfl) (oJ g37 rfl) rfl ?_
     refine kz 14 rfl (by kernel_rfl) (oJ g37 rfl) rfl ?_
     refine kz 15 rfl (by kernel_rfl) (oJ g37 rfl) rfl ?_
     refine aW 16 rfl (by kernel_rfl) (dm g37 rfl rfl) rfl rfl ?_
     obtain rfl := ak h
     exact pF rest (gW rfl (bh (bh (bh (bh (bh (bh cI rfl) rfl) rfl) rfl) rfl) rfl)) (ac _) (ac _)
    have h := ah g37 hb37
    refine bL 11 rfl (by kernel_rfl) (aE (us := [.slice A1 n1 c1, .slice A2 n2 c2]) 2 rfl rfl ex rfl) (cO g37 rfl) rfl ?_
    refine bL 12 rfl (by kernel_rfl) (aE (us := [iV p16, iV p17, iV p18, iV p19, .slice A20 n20 c20, .slice A21 n21 c21]) 5 rfl rfl ba rfl) (cO g37 rfl) rfl ?_
    obtain ⟨y38, hy38, h⟩ := aa h
    refine ea 13 rfl (by kernel_rfl) (al (ng hy38) zP rfl (mem_cons (am (i := 3) rfl rfl) (mem_cons (am (i := 4) rfl rfl) aj)) lp) rfl (cO g37 rfl) rfl ?_
    rintro _ _ ⟨_, ⟨A39, n39, c39, rfl, rfl⟩, rfl⟩
    refine ⟨[aR A1 n1 c1 a0.Young, aR A2 n2 c2 a0.Old, aq B4 24 [.slice A1 n1 c1, .slice A2 n2 c2], aF A20 n20 c20 p20, aF A21 n21 c21 p21, aq B14 42 [iV p16, iV p17, iV p18, iV p19, .slice A20 n20 c20, .slice A21 n21 c21]], ab [1, 2, 3, 4, 5, 6] 7 rfl rfl, ac _, ?_⟩
    obtain ⟨y40, hy40, h⟩ := aa h
    refine ea 14 rfl (by kernel_rfl) (al (kI hy40) wx rfl (mem_cons (am (i := 1) rfl rfl) (mem_cons (am (i := 2) rfl rfl) (mem_cons (cC (i := 0) rfl) aj))) jb) rfl (cO g37 rfl) rfl ?_
    rintro _ _ ⟨_, ⟨rfl, rfl⟩, rfl⟩
    refine ⟨[aR A1 n1 c1 a0.Young, aR A2 n2 c2 a0.Old, aq B4 24 [.slice A1 n1 c1, .slice A2 n2 c2], aF A20 n20 c20 p20, aF A21 n21 c21 p21, aq B14 42 [iV p16, iV p17, iV p18, iV p19, .slice A20 n20 c20, .slice A21 n21 c21]], ab [1, 2, 3, 4, 5, 6] 7 rfl rfl, ac _, ?_⟩
    refine aW 15 rfl (by kernel_rfl) (kX rfl) (cO g37 rfl) rfl ?_
    refine aW 16 rfl (by kernel_rfl) (dn g37 rfl rfl) rfl rfl ?_
    obtain rfl := ak h
    exact pF rest (gW rfl (bh (bh (bh (bh (bh (bh cI rfl) rfl) rfl) rfl) rfl) rfl)) (ab [1, 2, 3, 4, 5, 6] 7 rfl rfl) (ac _)
   refine dX (by kernel_rfl) ?_
   refine kO ?_
   refine ar rfl (fun g41 => ?_) (fun g41 => ?_)
   ·replace h := ag g41 h
    refine run ?_
    obtain rfl := ak h
    exact aB rfl rfl (ab [] 6 rfl rfl) ⟨rfl, rfl⟩
   replace h := ah g41 h
   refine run ?_
   obtain ⟨q42, h⟩ := ao h
   refine gE (aN rfl rfl q42.1 q42.2) ?_
   refine run ?_
   exact ⟨m10, _, _, Nat.lt_succ_self _, ⟨p11 + 1, h, rfl, rfl⟩, sA, ab [0, 1, 2] 6 rfl rfl⟩
  replace h := ah g13 h
  refine run ?_
  exact ⟨_, _, ⟨h, rfl, rfl⟩, sA, ab [] 3 rfl rfl⟩
 rintro _ _ ⟨h, rfl, rfl⟩
 refine run ?_
 obtain rfl := ak h
 exact aB rfl rfl (ab [] 0 rfl rfl) ⟨rfl, rfl⟩
theorem na {r : Bool} : ∀ v post, ((fun (u : Value) (post : List Chunk) => u = .bool r ∧ post = [])) v post → ∀ c ∈ post, bX c := by
 rintro _ _ ⟨rfl, rfl⟩; exact aj
def jG (N : Nat) : Option Bool :=
 some true
def r15_SameValues_l5 (N : Nat) (a0 : (List DValue)) (a1 : (List DValue)) : Nat → Int → Option Bool
 | 0, _ => none
 | m5 + 1, p6 => bif decide (p6 < (a0.length : Int)) then ((aH a0 p6).bind fun x8 => (aH a1 p6).bind fun x9 => bif !decide (x8 = x9) then (some false) else (bD (aK (p6 + 1)) ((r15_SameValues_l5 N a0 a1 m5) (p6 + 1)))) else (jG N)
def dc (N : Nat) (a0 : (List DValue)) (a1 : (List DValue)) : Option Bool :=
 bif !decide ((a0.length : Int) = (a1.length : Int)) then (some false) else (r15_SameValues_l5 N a0 a1 N 0)
theorem gi {N : Nat} {a0 : (List DValue)} {a1 : (List DValue)} {r : Bool} (h : dc N a0 a1 = some r) : Okc Try.prog 13 [.slice A1 n1 c1, .slice A2 n2 c2] ([aF A1 n1 c1 a0, aF A2 n2 c2 a1]) (fun u post => u = .bool r ∧ post = []) := by
 refine bz Try.func13 rfl rfl ?_
 simp only [aQ]
 refine run ?_
 refine av ?_
 refine run ?_
 refine gR (az 0 rfl ai rfl Try.underlying25) ?_
 refine run ?_
 refine gR (az 1 rfl ai rfl Try.underlying25) ?_
 refine run ?_
 refine ar rfl (fun g3 => ?_) (fun g3 => ?_)
 ·replace h := ag g3 h
  refine run ?_
  obtain rfl := ak h
  exact aB rfl rfl (ab [] 2 rfl rfl) ⟨rfl, rfl⟩
 replace h := ah g3 h
 refine run ?_
 refine aL (fun s L => jG N = some r ∧ s = [(4, .bool false)] ∧ L = []) ?_ ?_
 ·refine run ?_
  refine bc (fun m s L => ∃ p6, r15_SameValues_l5 N a0 a1 m p6 = some r ∧ s = [(0, .slice A1 n1 c1), (1, .slice A2 n2 c2), (4, .bool false), (5, iV p6)] ∧ L = [aF A1 n1 c1 a0, aF A2 n2 c2 a1]) N _ _ ⟨0, h, rfl, rfl⟩ sA (ab [0, 1] 2 rfl rfl) ?_
  rintro (_ | m5) _ _ ⟨p6, h, rfl, rfl⟩
  ·exact aA h
  rw [r15_SameValues_l5.eq_2] at h
  refine av ?_
  refine run ?_
  refine gR (az 0 rfl ai rfl Try.underlying25) ?_
  refine run ?_
  refine ar rfl (fun g7 => ?_) (fun g7 => ?_)
  ·replace h := ag g7 h
   refine run ?_
   refine av ?_
   refine ep ?_
   refine av ?_
   refine dY (by kernel_rfl) _ (ac _) ?_
   refine aW 0 rfl (by kernel_rfl) (aI rfl) rfl rfl ?_
   refine aW 1 rfl (by kernel_rfl) (aI rfl) rfl rfl ?_
   obtain ⟨x8, hx8, h⟩ := aa h
   obtain ⟨lx8, ux8, hx8⟩ := ap hx8
   refine bL 2 rfl (by kernel_rfl) (aC 0 rfl ai rfl rfl Try.underlying25 aG lx8 ux8) rfl rfl ?_
   refine bL 3 rfl (by kernel_rfl) (aO (us := [iV x8.Kind, iV x8.N, .string x8.S]) 0 rfl ai rfl hx8 bp (fun _ _ _ h => by rw [show _ = _ from h]; rfl)) rfl rfl ?_
   refine aW 4 rfl (by kernel_rfl) (aI rfl) rfl rfl ?_
   refine aW 5 rfl (by kernel_rfl) (aI rfl) rfl rfl ?_
   obtain ⟨x9, hx9, h⟩ := aa h
   obtain ⟨lx9, ux9, hx9⟩ := ap hx9
   refine bL 6 rfl (by kernel_rfl) (aC 1 rfl ai rfl rfl Try.underlying25 aG lx9 ux9) rfl rfl ?_
   refine bL 7 rfl (by kernel_rfl) (aO (us := [iV x9.Kind, iV x9.N, .string x9.S]) 1 rfl ai rfl hx9 bp (fun _ _ _ h => by rw [show _ = _ from h]; rfl)) rfl rfl ?_
   refine aW 8 rfl (by kernel_rfl) (ye (x := x8) (y := x9) rfl rfl) rfl rfl ?_
   refine dX (by kernel_rfl) ?_
   refine kO ?_
   refine ar rfl (fun g10 => ?_) (fun g10 => ?_)
   ·replace h := ag g10 h
    refine run ?_
    obtain rfl := ak h
    exact aB rfl rfl (ab [] 2 rfl rfl) ⟨rfl, rfl⟩
   replace h := ah g10 h
   refine run ?_
   obtain ⟨q11, h⟩ := ao h
   refine gE (aN rfl rfl q11.1 q11.2) ?_
   refine run ?_
   exact ⟨m5, _, _, Nat.lt_succ_self _, ⟨p6 + 1, h, rfl, rfl⟩, sA, ab [0, 1] 2 rfl rfl⟩
  replace h := ah g7 h
  refine run ?_
  exact ⟨_, _, ⟨h, rfl, rfl⟩, sA, ab [] 2 rfl rfl⟩
 rintro _ _ ⟨h, rfl, rfl⟩
 refine run ?_
 obtain rfl := ak h
 exact aB rfl rfl (ab [] 0 rfl rfl) ⟨rfl, rfl⟩
theorem fv {r : Bool} : ∀ v post, ((fun (u : Value) (post : List Chunk) => u = .bool r ∧ post = [])) v post → ∀ c ∈ post, bX c := by
 rintro _ _ ⟨rfl, rfl⟩; exact aj
def jf (N : Nat) (a0 : DCell) (a1 : DCell) : Option Bool :=
 (bif decide (a0.Kind = a1.Kind) then (some (decide (a0.Shape = a1.Shape))) else (some false)).bind fun b7 => (bif b7 then (some (decide (a0.Flags = a1.Flags))) else (some false)).bind fun b8 => (bif b8 then (some (decide (a0.Age = a1.Age))) else (some false)).bind fun b9 => (bif b9 then ((dc N a0.Slots a1.Slots).bind fun y11 => some y11) else (some false)).bind fun b10 => (bif b10 then ((dc N a0.More a1.More).bind fun y13 => some y13) else (some false)).bind fun b12 => some b12
theorem uA {N : Nat} {a0 : DCell} {a1 : DCell} {r : Bool} (h : jf N a0 a1 = some r) : Okc Try.prog 87 [.agg #[iV a0.Kind, iV a0.Shape, iV a0.Flags, iV a0.Age, .slice A1 n1 c1, .slice A2 n2 c2], .agg #[iV a1.Kind, iV a1.Shape, iV a1.Flags, iV a1.Age, .slice A3 n3 c3, .slice A4 n4 c4]] ([aF A1 n1 c1 a0.Slots, aF A2 n2 c2 a0.More, aF A3 n3 c3 a1.Slots, aF A4 n4 c4 a1.More]) (fun u post => u = .bool r ∧ post = []) := by
 refine bz Try.func87 rfl rfl ?_
 simp only [aQ]
 refine run ?_
 refine gD (aU rfl rfl) ?_
 rintro _ _ ⟨B5, rfl, rfl⟩
 refine gD (aU rfl rfl) ?_
 rintro _ _ ⟨B6, rfl, rfl⟩
 refine run ?_
 obtain ⟨b7, hb7, h⟩ := aa h
 refine aw 6 16 b7 ?_ ?_
 ·clear h
  refine ax 10 rfl (fun g7 => ?_) (fun g7 => ?_)
  ·have h := ag g7 hb7
   refine run ?_
   obtain rfl := ak h
   exact ad sA (ab [0, 1, 2, 3, 4, 5] 6 rfl rfl)
  have h := ah g7 hb7
  refine run ?_
  obtain rfl := ak h
  exact ad sA (ab [0, 1, 2, 3, 4, 5] 6 rfl rfl)
 refine run ?_
 obtain ⟨b8, hb8, h⟩ := aa h
 refine aw 6 23 b8 ?_ ?_
 ·clear h
  refine ax 17 rfl (fun g8 => ?_) (fun g8 => ?_)
  ·have h := ag g8 hb8
   refine run ?_
   obtain rfl := ak h
   exact ad sA (ab [0, 1, 2, 3, 4, 5] 6 rfl rfl)
  have h := ah g8 hb8
  refine run ?_
  obtain rfl := ak h
  exact ad sA (ab [0, 1, 2, 3, 4, 5] 6 rfl rfl)
 refine run ?_
 obtain ⟨b9, hb9, h⟩ := aa h
 refine aw 6 30 b9 ?_ ?_
 ·clear h
  refine ax 24 rfl (fun g9 => ?_) (fun g9 => ?_)
  ·have h := ag g9 hb9
   refine run ?_
   obtain rfl := ak h
   exact ad sA (ab [0, 1, 2, 3, 4, 5] 6 rfl rfl)
  have h := ah g9 hb9
  refine run ?_
  obtain rfl := ak h
  exact ad sA (ab [0, 1, 2, 3, 4, 5] 6 rfl rfl)
 refine run ?_
 obtain ⟨b10, hb10, h⟩ := aa h
 refine aw 6 37 b10 ?_ ?_
 ·clear h
  refine ax 31 rfl (fun g10 => ?_) (fun g10 => ?_)
  ·have h := ag g10 hb10
   refine run ?_
   obtain ⟨y11, hy11, h⟩ := aa h
   refine bM (al (gi hy11) wz rfl (mem_cons (am (i := 2) rfl rfl) (mem_cons (am (i := 4) rfl rfl) aj)) fv) rfl (aJ g10 rfl) rfl ?_
   rintro _ _ ⟨_, ⟨rfl, rfl⟩, rfl⟩
   refine run ?_
   obtain rfl := ak h
   exact ad sA (ab [0, 1, 2, 3, 4, 5] 6 rfl rfl)
  have h := ah g10 hb10
  refine run ?_
  obtain rfl := ak h
  exact ad sA (ab [0, 1, 2, 3, 4, 5] 6 rfl rfl)
 refine run ?_
 obtain ⟨b12, hb12, h⟩ := aa h
 refine aw 6 44 b12 ?_ ?_
 ·clear h
  refine ax 38 rfl (fun g12 => ?_) (fun g12 => ?_)
  ·have h := ag g12 hb12
   refine run ?_
   obtain ⟨y13, hy13, h⟩ := aa h
   refine bM (al (gi hy13) wz rfl (mem_cons (am (i := 3) rfl rfl) (mem_cons (am (i := 5) rfl rfl) aj)) fv) rfl (aJ g12 rfl) rfl ?_
   rintro _ _ ⟨_, ⟨rfl, rfl⟩, rfl⟩
   refine run ?_
   obtain rfl := ak h
   exact ad sA (ab [0, 1, 2, 3, 4, 5] 6 rfl rfl)
  have h := ah g12 hb12
  refine run ?_
  obtain rfl := ak h
  exact ad sA (ab [0, 1, 2, 3, 4, 5] 6 rfl rfl)
 refine run ?_
 obtain rfl := ak h
 exact aB rfl rfl (ab [] 6 rfl rfl) ⟨rfl, rfl⟩
theorem rY {r : Bool} : ∀ v post, ((fun (u : Value) (post : List Chunk) => u = .bool r ∧ post = [])) v post → ∀ c ∈ post, bX c := by
 rintro _ _ ⟨rfl, rfl⟩; exact aj
def og (N : Nat) : Option Bool :=
 some true
def r20_Cells_l5 (N : Nat) (a0 : (List DCell)) (a1 : (List DCell)) : Nat → Int → Option Bool
 | 0, _ => none
 | m5 + 1, p6 => bif decide (p6 < (a0.length : Int)) then ((aH a0 p6).bind fun x8 => (aH a1 p6).bind fun x12 => (jf N x8 x12).bind fun y16 => bif !y16 then (some false) else (bD (aK (p6 + 1)) ((r20_Cells_l5 N a0 a1 m5) (p6 + 1)))) else (og N)
def gY (N : Nat) (a0 : (List DCell)) (a1 : (List DCell)) : Option Bool :=
 bif !decide ((a0.length : Int) = (a1.length : Int)) then (some false) else (r20_Cells_l5 N a0 a1 N 0)
theorem oe {N : Nat} {a0 : (List DCell)} {a1 : (List DCell)} {r : Bool} (h : gY N a0 a1 = some r) : Okc Try.prog 46 [.slice A1 n1 c1, .slice A2 n2 c2] ([aR A1 n1 c1 a0, aR A2 n2 c2 a1]) (fun u post => u = .bool r ∧ post = []) := by
 refine bz Try.func46 rfl rfl ?_
 simp only [aQ]
 refine run ?_
 refine av ?_
 refine run ?_
 refine gR (az 0 rfl ai rfl Try.underlying22) ?_
 refine run ?_
 refine gR (az 1 rfl ai rfl Try.underlying22) ?_
 refine run ?_
 refine ar rfl (fun g3 => ?_) (fun g3 => ?_)
 ·replace h := ag g3 h
  refine run ?_
  obtain rfl := ak h
  exact aB rfl rfl (ab [] 2 rfl rfl) ⟨rfl, rfl⟩
 replace h := ah g3 h
 refine run ?_
 refine aL (fun s L => og N = some r ∧ s = [(4, .bool false)] ∧ L = []) ?_ ?_
 ·refine run ?_
  refine bc (fun m s L => ∃ p6, r20_Cells_l5 N a0 a1 m p6 = some r ∧ s = [(0, .slice A1 n1 c1), (1, .slice A2 n2 c2), (4, .bool false), (5, iV p6)] ∧ L = [aR A1 n1 c1 a0, aR A2 n2 c2 a1]) N _ _ ⟨0, h, rfl, rfl⟩ sA (ab [0, 1] 2 rfl rfl) ?_
  rintro (_ | m5) _ _ ⟨p6, h, rfl, rfl⟩
  ·exact aA h
  rw [r20_Cells_l5.eq_2] at h
  refine av ?_
  refine run ?_
  refine gR (az 0 rfl ai rfl Try.underlying22) ?_
  refine run ?_
  refine ar rfl (fun g7 => ?_) (fun g7 => ?_)
  ·replace h := ag g7 h
   refine run ?_
   refine av ?_
   refine ep ?_
   refine av ?_
   refine dY (by kernel_rfl) _ (ac _) ?_
   refine aW 0 rfl (by kernel_rfl) (aI rfl) rfl rfl ?_
   refine aW 1 rfl (by kernel_rfl) (aI rfl) rfl rfl ?_
   obtain ⟨x8, hx8, h⟩ := aa h
   obtain ⟨lx8, ux8, hx8⟩ := ap hx8
   refine bL 2 rfl (by kernel_rfl) (aC 0 rfl ai rfl rfl Try.underlying22 bq lx8 ux8) rfl rfl ?_
   refine uc 0 rfl hx8 (cE x8) ?_
   rintro _ _ ⟨A9, n9, c9, A10, n10, c10, rfl, rfl⟩
   refine bL 3 rfl (by kernel_rfl) (gc (us := [iV x8.Kind, iV x8.Shape, iV x8.Flags, iV x8.Age, .slice A9 n9 c9, .slice A10 n10 c10]) 0 rfl rfl ba rfl) rfl rfl ?_
   refine aW 4 rfl (by kernel_rfl) (aI rfl) rfl rfl ?_
   refine aW 5 rfl (by kernel_rfl) (aI rfl) rfl rfl ?_
   obtain ⟨x12, hx12, h⟩ := aa h
   obtain ⟨lx12, ux12, hx12⟩ := ap hx12
   refine bL 6 rfl (by kernel_rfl) (aC 4 rfl ai rfl rfl Try.underlying22 bq lx12 ux12) rfl rfl ?_
   refine uc 4 rfl hx12 (cE x12) ?_
   rintro _ _ ⟨A13, n13, c13, A14, n14, c14, rfl, rfl⟩
   refine bL 7 rfl (by kernel_rfl) (gc (us := [iV x12.Kind, iV x12.Shape, iV x12.Flags, iV x12.Age, .slice A13 n13 c13, .slice A14 n14 c14]) 0 rfl rfl ba rfl) rfl rfl ?_
   obtain ⟨y16, hy16, h⟩ := aa h
   refine ea 8 rfl (by kernel_rfl) (al (uA hy16) Cq rfl (mem_cons (am (i := 4) rfl rfl) (mem_cons (am (i := 5) rfl rfl) (mem_cons (am (i := 1) rfl rfl) (mem_cons (am (i := 2) rfl rfl) aj)))) rY) rfl rfl rfl ?_
   rintro _ _ ⟨_, ⟨rfl, rfl⟩, rfl⟩
   refine ⟨_, ac _, ac _, ?_⟩
   refine aW 9 rfl (by kernel_rfl) (kX rfl) rfl rfl ?_
   refine dX (by kernel_rfl) ?_
   refine kO ?_
   refine ar rfl (fun g17 => ?_) (fun g17 => ?_)
   ·replace h := ag g17 h
    refine run ?_
    obtain rfl := ak h
    exact aB rfl rfl (ab [] 8 rfl rfl) ⟨rfl, rfl⟩
   replace h := ah g17 h
   refine run ?_
   obtain ⟨q18, h⟩ := ao h
   refine gE (aN rfl rfl q18.1 q18.2) ?_
   refine run ?_
   exact ⟨m5, _, _, Nat.lt_succ_self _, ⟨p6 + 1, h, rfl, rfl⟩, sA, ab [6, 7] 8 rfl rfl⟩
  replace h := ah g7 h
  refine run ?_
  exact ⟨_, _, ⟨h, rfl, rfl⟩, sA, ab [] 2 rfl rfl⟩
 rintro _ _ ⟨h, rfl, rfl⟩
 refine run ?_
 obtain rfl := ak h
 exact aB rfl rfl (ab [] 0 rfl rfl) ⟨rfl, rfl⟩
theorem lN {r : Bool} : ∀ v post, ((fun (u : Value) (post : List Chunk) => u = .bool r ∧ post = [])) v post → ∀ c ∈ post, bX c := by
 rintro _ _ ⟨rfl, rfl⟩; exact aj
def kJ (N : Nat) (a0 : DMemory) (a1 : DMemory) : Option Bool :=
 (gY N a0.Young a1.Young).bind fun y7 => (bif y7 then ((gY N a0.Old a1.Old).bind fun y9 => some y9) else (some false)).bind fun b8 => some b8
theorem ux {N : Nat} {a0 : DMemory} {a1 : DMemory} {r : Bool} (h : kJ N a0 a1 = some r) : Okc Try.prog 12 [.agg #[.slice A1 n1 c1, .slice A2 n2 c2], .agg #[.slice A3 n3 c3, .slice A4 n4 c4]] ([aR A1 n1 c1 a0.Young, aR A2 n2 c2 a0.Old, aR A3 n3 c3 a1.Young, aR A4 n4 c4 a1.Old]) (fun u post => u = .bool r ∧ post = []) := by
 refine bz Try.func12 rfl rfl ?_
 simp only [aQ]
 refine run ?_
 refine gD (aU rfl rfl) ?_
 rintro _ _ ⟨B5, rfl, rfl⟩
 refine gD (aU rfl rfl) ?_
 rintro _ _ ⟨B6, rfl, rfl⟩
 refine run ?_
 obtain ⟨y7, hy7, h⟩ := aa h
 refine gD (al (oe hy7) zN rfl (mem_cons (am (i := 2) rfl rfl) (mem_cons (am (i := 4) rfl rfl) aj)) lN) ?_
 rintro _ _ ⟨_, ⟨rfl, rfl⟩, rfl⟩
 refine run ?_
 obtain ⟨b8, hb8, h⟩ := aa h
 refine aw 6 16 b8 ?_ ?_
 ·clear h
  refine ax 10 rfl (fun g8 => ?_) (fun g8 => ?_)
  ·have h := ag g8 hb8
   refine run ?_
   obtain ⟨y9, hy9, h⟩ := aa h
   refine bM (al (oe hy9) zN rfl (mem_cons (am (i := 3) rfl rfl) (mem_cons (am (i := 5) rfl rfl) aj)) lN) rfl (aJ g8 rfl) rfl ?_
   rintro _ _ ⟨_, ⟨rfl, rfl⟩, rfl⟩
   refine run ?_
   obtain rfl := ak h
   exact ad sA (ab [0, 1, 2, 3, 4, 5] 6 rfl rfl)
  have h := ah g8 hb8
  refine run ?_
  obtain rfl := ak h
  exact ad sA (ab [0, 1, 2, 3, 4, 5] 6 rfl rfl)
 refine run ?_
 obtain rfl := ak h
 exact aB rfl rfl (ab [] 6 rfl rfl) ⟨rfl, rfl⟩
theorem rU {r : Bool} : ∀ v post, ((fun (u : Value) (post : List Chunk) => u = .bool r ∧ post = [])) v post → ∀ c ∈ post, bX c := by
 rintro _ _ ⟨rfl, rfl⟩; exact aj
def iY (N : Nat) : Option Bool :=
 some true
def w20_MinorAgain_l17 (N : Nat) : Nat → (List DValue) → (List DValue) → Int → (List DCell) → (List DCell) → (List DCell) → (List DCell) → Option Bool
 | 0, _, _, _, _, _, _, _ => none
 | m17 + 1, p18, p19, p20, p21, p22, p23, p24 => bif decide (p20 < 3) then ((kD N (⟨p23, p24⟩ : DMemory)).bind fun y29 => (cT N (⟨p23, p24⟩ : DMemory) p19 y29).bind fun y32 => bif !decide (y32.2.2.2 = 0) then ((bif decide (p20 = 0) then ((jc N (⟨p21, p22⟩ : DMemory) p18).bind fun y61 => some (!y61)) else (some false)).bind fun b60 => some b60) else (bD (aK ((y32.1.Young.length : Int) + (y32.1.Old.length : Int))) (bD (aK ((p23.length : Int) + (p24.length : Int))) ((bif decide ((p23.length : Int) + (p24.length : Int) < (y32.1.Young.length : Int) + (y32.1.Old.length : Int)) then (some true) else ((bif decide (0 < p20) then (some (!decide ((y32.1.Young.length : Int) = 0))) else (some false)).bind fun b65 => some b65)).bind fun b64 => (bif b64 then (some true) else ((jc N y32.1 y32.2.1).bind fun y67 => some (!y67))).bind fun b66 => bif b66 then (some false) else ((bif decide (p20 = 2) then ((kJ N y32.1 (⟨p23, p24⟩ : DMemory)).bind fun y70 => (bif !y70 then (some true) else ((dc N y32.2.1 p19).bind fun y72 => some (!y72))).bind fun b71 => some b71) else (some false)).bind fun b69 => bif b69 then (some false) else (bD (aK (p20 + 1)) ((w20_MinorAgain_l17 N m17) p18 y32.2.1 (p20 + 1) p21 p22 y32.1.Young y32.1.Old))))))) else (iY N)
def fc (N : Nat) (a0 : DMemory) (a1 : (List DValue)) : Option Bool :=
 (lB N).bind fun y5 => bif !y5 then (some false) else ((my N a0).bind fun y7 => bD ((0 : Int) ≤ min (a1.length : Int) 40 ∧ 0 ≤ (min (a1.length : Int) 40).toNat ∧ (min (a1.length : Int) 40).toNat ≤ a1.length) (w20_MinorAgain_l17 N N ((a1.drop 0).take ((min (a1.length : Int) 40).toNat - 0)) ((a1.drop 0).take ((min (a1.length : Int) 40).toNat - 0)) 0 y7.Young y7.Old y7.Young y7.Old))
set_option maxHeartbeats 4000000 in
theorem nT {N : Nat} {a0 : DMemory} {a1 : (List DValue)} {r : Bool} (h : fc N a0 a1 = some r) : Okc Try.prog 3 [.agg #[.slice A1 n1 c1, .slice A2 n2 c2], .slice A3 n3 c3] ([aR A1 n1 c1 a0.Young, aR A2 n2 c2 a0.Old, aF A3 n3 c3 a1]) (fun u post => u = .bool r ∧ post = []) := by
 refine bz Try.func3 rfl rfl ?_
 simp only [aQ]
 refine run ?_
 refine gD (aU rfl rfl) ?_
 rintro _ _ ⟨B4, rfl, rfl⟩
 refine run ?_
 refine av ?_
 refine run ?_
 obtain ⟨y5, hy5, h⟩ := aa h
 refine gD (al (tb hy5) Di rfl (aj) qG) ?_
 rintro _ _ ⟨_, ⟨rfl, rfl⟩, rfl⟩
 refine run ?_
 refine ar rfl (fun g6 => ?_) (fun g6 => ?_)
 ·replace h := ag g6 h
  refine run ?_
  obtain rfl := ak h
  exact aB rfl rfl (ab [] 4 rfl rfl) ⟨rfl, rfl⟩
 replace h := ah g6 h
 refine run ?_
 refine av ?_
 obtain ⟨y7, hy7, h⟩ := aa h
 obtain ⟨q12, h⟩ := ao h
 refine fb (t := [(1, .slice A3 n3 c3), (2, pV B4 0), (4, .bool false)]) ?_ gX (ac _)
 refine fo (by kernel_rfl) 7 [2, 3, 4, 5, 6] [1, 6] [14, 15, 16, 17, 18, 19, 20] [[], [0], [], [], [3], [4], [2, 5]] [aV (.agg #[.slice A1 n1 c1, .slice A2 n2 c2]),
aX6 (fun (A10 : Option Addr) (n10 c10 : Nat) (A11 : Option Addr) (n11 c11 : Nat) => .agg #[.slice A10 n10 c10, .slice A11 n11 c11]) (fun A10 n10 c10 A11 n11 c11 => [f4 A10 n10 c10 y7.Young, f4 A11 n11 c11 y7.Old]),
aV (.slice A3 n3 c3),
aV (.slice A3 n3 c3),
aV (iV (a1.length : Int)),
aV (iV (min (a1.length : Int) 40)),
aX3 (fun (A14 : Option Addr) (n14 c14 : Nat) => .slice A14 n14 c14) (fun A14 n14 c14 => [aF A14 n14 c14 ((a1.drop 0).take ((min (a1.length : Int) 40).toNat - 0))])] [] (ac _) (eJ rfl (eJ rfl (eJ rfl (eJ rfl (eJ rfl gH))))) (by kernel_rfl) rfl rfl ?_ ?_ ?_
 ·refine eI rfl ?_ ?_
  ·exact nn (aI rfl) rfl (aD rfl (ac _))
  refine eI rfl ?_ ?_
  ·exact nn (aI rfl) rfl (aD rfl (ac _))
  refine eI rfl ?_ ?_
  ·exact xB (yP 3 rfl ai rfl Try.underlying25) rfl (aD rfl (ac _))
  refine eI rfl ?_ ?_
  ·exact nn (pA rfl rfl Try.underlying3 Try.underlying3) rfl (aD rfl (ac _))
  refine eI rfl ?_ ?_
  ·refine Ae 3 rfl (l := 0) (h := (min (a1.length : Int) 40).toNat) q12.2.1 q12.2.2 ?_
   rintro A13 n13 c13 e13
   exact xB (yQ 4 rfl e13 rfl Try.underlying25 aG rfl rfl (by rw [Int.toNat_of_nonneg q12.1]; rfl) q12.2.1 q12.2.2) rfl (ig A13 n13 c13 (ac _))
  exact gG
 ·refine ae rfl ?_ ?_
  ·refine Ad 3 rfl (l := 0) (h := (min (a1.length : Int) 40).toNat) q12.2.1 q12.2.2 ?_
   rintro A13 n13 c13 e13
   exact bW (vN 4 rfl e13 rfl Try.underlying25 aG rfl rfl (by rw [Int.toNat_of_nonneg q12.1]; rfl) q12.2.1 q12.2.2) rfl (ig A13 n13 c13 (ac _))
  refine ae rfl ?_ ?_
  ·exact bj (pA rfl rfl Try.underlying3 Try.underlying3) rfl (aD rfl (ac _))
  refine ae rfl ?_ ?_
  ·exact bW (az 3 rfl ai rfl Try.underlying25) rfl (aD rfl (ac _))
  refine ae rfl ?_ ?_
  ·exact bj (aI rfl) rfl (aD rfl (ac _))
  refine ae rfl ?_ ?_
  ·exact bj (aI rfl) rfl (aD rfl (ac _))
  refine ae rfl ?_ ?_
  ·refine jy (cg (vC hy7) Dh rfl (bO [1, 2] [] [0, 1, 2, 3] 4 rfl)) rfl ?_
   rintro _ _ ⟨_, ⟨A8, n8, c8, A9, n9, c9, rfl, rfl⟩, rfl⟩
   exact zA A8 n8 c8 A9 n9 c9 (ac _)
  refine ae rfl ?_ ?_
  ·exact bW (aE (us := [.slice A1 n1 c1, .slice A2 n2 c2]) 0 rfl rfl ex rfl) rfl (aD rfl (ac _))
  exact db
 intro A10 n10 c10 A11 n11 c11 A14 n14 c14
 refine jN (t := [(15, .agg #[.slice A10 n10 c10, .slice A11 n11 c11]), (20, .slice A14 n14 c14), (1, .slice A3 n3 c3), (2, pV B4 0), (4, .bool false)]) (L' := [f4 A10 n10 c10 y7.Young, f4 A11 n11 c11 y7.Old, aF A14 n14 c14 ((a1.drop 0).take ((min (a1.length : Int) 40).toNat - 0)), aq B4 24 [.slice A1 n1 c1, .slice A2 n2 c2], aR A1 n1 c1 a0.Young, aR A2 n2 c2 a0.Old, aF A3 n3 c3 a1]) ?_ gX (ac _)
 refine mq 7 rfl (by kernel_rfl) (ay (us := [.slice A10 n10 c10, .slice A11 n11 c11]) (cs' := [.slice A10 n10 c10, .slice A11 n11 c11]) 3 rfl rfl rfl rfl lF rfl rfl rfl) rfl rfl ?_
 rintro _ _ rfl
 refine oZ 8 rfl (by kernel_rfl) (bP rfl) rfl rfl rfl ?_
 refine gM (by kernel_rfl) ?_
 refine run ?_
 refine gR (aE (us := [.slice A10 n10 c10, .slice A11 n11 c11]) 3 rfl rfl ex rfl) ?_
 refine run ?_
 refine gD (aS qz rfl) ?_
 rintro _ _ ⟨B15, rfl, rfl⟩
 refine gO (ay (us := [.slice A10 n10 c10, .slice A11 n11 c11]) (cs' := [.slice A10 n10 c10, .slice A11 n11 c11]) 0 rfl rfl rfl rfl lF rfl rfl rfl) ?_
 rintro _ _ rfl
 refine run ?_
 refine aL (fun s L => iY N = some r ∧ s = [(4, .bool false)] ∧ L = []) ?_ ?_
 ·refine run ?_
  refine bc (fun m s L => ∃ p18 p19 p20 p21 p22 p23 p24 A18 n18 c18 A19 n19 c19 A21 n21 c21 A22 n22 c22 A23 n23 c23 A24 n24 c24, w20_MinorAgain_l17 N m p18 p19 p20 p21 p22 p23 p24 = some r ∧ s = [(1, .slice A18 n18 c18), (2, pV B4 0), (4, .bool false), (5, pV B15 0), (6, .slice A19 n19 c19), (7, iV p20)] ∧ L = [aF A18 n18 c18 p18, aF A19 n19 c19 p19, aR A21 n21 c21 p21, aR A22 n22 c22 p22, aq B4 24 [.slice A21 n21 c21, .slice A22 n22 c22], aR A23 n23 c23 p23, aR A24 n24 c24 p24, aq B15 24 [.slice A23 n23 c23, .slice A24 n24 c24]]) N _ _ ⟨(a1.drop 0).take ((min (a1.length : Int) 40).toNat - 0), (a1.drop 0).take ((min (a1.length : Int) 40).toNat - 0), 0, y7.Young, y7.Old, y7.Young, y7.Old, A14, n14, c14, A14, n14, c14, A10, n10, c10, A11, n11, c11, A10, n10, c10, A11, n11, c11, h, rfl, rfl⟩ sA ((cA 3 rfl rfl).trans ((cL 2 rfl).trans ((cL 3 rfl).trans ((cA 2 rfl rfl).trans ((cA 4 rfl rfl).trans (ab [6, 2, 4, 5, 7, 1, 0, 3] 11 rfl rfl)))))) ?_
  rintro (_ | m17) _ _ ⟨p18, p19, p20, p21, p22, p23, p24, A18, n18, c18, A19, n19, c19, A21, n21, c21, A22, n22, c22, A23, n23, c23, A24, n24, c24, h, rfl, rfl⟩
  ·exact aA h
  rw [w20_MinorAgain_l17.eq_2] at h
  refine av ?_
  refine run ?_
  refine ar rfl (fun g28 => ?_) (fun g28 => ?_)
  ·replace h := ag g28 h
   refine run ?_
   refine av ?_
   refine ep ?_
   refine av ?_
   obtain ⟨y29, hy29, h⟩ := aa h
   obtain ⟨y32, hy32, h⟩ := aa h
   refine fb (t := [(1, .slice A18 n18 c18), (2, pV B4 0), (4, .bool false), (5, pV B15 0), (6, .slice A19 n19 c19), (7, iV p20)]) ?_ gX (ac _)
   refine fo (by kernel_rfl) 11 [7, 8, 9] [6, 7, 8, 9, 10] [28, 29, 30, 31, 32, 27, 33, 34, 35, 36, 8] [[], [], [], [2], [0, 1, 3], [4], [5], [5], [5], [5], []] [aV (.agg #[.slice A23 n23 c23, .slice A24 n24 c24]),
aV (.slice A19 n19 c19),
aV (.agg #[.slice A23 n23 c23, .slice A24 n24 c24]),
aX3 (fun (A31 : Option Addr) (n31 c31 : Nat) => .slice A31 n31 c31) (fun A31 n31 c31 => [ca A31 n31 c31 y29]),
aX12 (fun (A37 : Option Addr) (n37 c37 : Nat) (A38 : Option Addr) (n38 c38 : Nat) (A39 : Option Addr) (n39 c39 : Nat) (A40 : Option Addr) (n40 c40 : Nat) => .tuple #[.agg #[.slice A37 n37 c37, .slice A38 n38 c38], .slice A39 n39 c39, .slice A40 n40 c40, iV y32.2.2.2]) (fun A37 n37 c37 A38 n38 c38 A39 n39 c39 A40 n40 c40 => [aR A37 n37 c37 y32.1.Young, aR A38 n38 c38 y32.1.Old, aF A39 n39 c39 y32.2.1, aF A40 n40 c40 y32.2.2.1]),
aX12 (fun (A41 : Option Addr) (n41 c41 : Nat) (A42 : Option Addr) (n42 c42 : Nat) (A43 : Option Addr) (n43 c43 : Nat) (A44 : Option Addr) (n44 c44 : Nat) => .tuple #[.agg #[.slice A41 n41 c41, .slice A42 n42 c42], .slice A43 n43 c43, .slice A44 n44 c44, iV y32.2.2.2]) (fun A41 n41 c41 A42 n42 c42 A43 n43 c43 A44 n44 c44 => [aR A41 n41 c41 y32.1.Young, aR A42 n42 c42 y32.1.Old, aF A43 n43 c43 y32.2.1, aF A44 n44 c44 y32.2.2.1]),
aX6 (fun (A49 : Option Addr) (n49 c49 : Nat) (A50 : Option Addr) (n50 c50 : Nat) => .agg #[.slice A49 n49 c49, .slice A50 n50 c50]) (fun A49 n49 c49 A50 n50 c50 => [aR A49 n49 c49 y32.1.Young, aR A50 n50 c50 y32.1.Old]),
aX3 (fun (A53 : Option Addr) (n53 c53 : Nat) => .slice A53 n53 c53) (fun A53 n53 c53 => [aF A53 n53 c53 y32.2.1]),
aX3 (fun (A55 : Option Addr) (n55 c55 : Nat) => .slice A55 n55 c55) (fun A55 n55 c55 => [aF A55 n55 c55 y32.2.2.1]),
aV (iV y32.2.2.2),
aX1 (fun (B58 : Nat) => pV B58 0) (fun B58 => [aq B58 24 [.slice none 0 0, .slice none 0 0]])] [] (ac _) (eJ rfl (eJ rfl (eJ rfl gH))) (by kernel_rfl) rfl rfl ?_ ?_ ?_
   ·refine eI rfl ?_ ?_
    ·intro A41 n41 c41 A42 n42 c42 A43 n43 c43 A44 n44 c44
     exact nn (cc rfl rfl) rfl (ig A43 n43 c43 ((cA 2 rfl rfl).trans (ac _)))
    refine eI rfl ?_ ?_
    ·intro A41 n41 c41 A42 n42 c42 A43 n43 c43 A44 n44 c44
     exact nn (cc rfl rfl) rfl (ig A44 n44 c44 ((cA 3 rfl rfl).trans (ac _)))
    refine eI rfl ?_ ?_
    ·intro A41 n41 c41 A42 n42 c42 A43 n43 c43 A44 n44 c44
     exact nn (cc rfl rfl) rfl (aD rfl (ac _))
    exact gG
   ·refine ae rfl ?_ ?_
    ·refine jy (aS qz rfl) rfl ?_
     rintro _ _ ⟨B57, rfl, rfl⟩
     exact Co B57 (ac _)
    refine ae rfl ?_ ?_
    ·intro A41 n41 c41 A42 n42 c42 A43 n43 c43 A44 n44 c44
     exact bj (cc rfl rfl) rfl (aD rfl (ac _))
    refine ae rfl ?_ ?_
    ·intro A41 n41 c41 A42 n42 c42 A43 n43 c43 A44 n44 c44
     exact bj (cc rfl rfl) rfl (ig A44 n44 c44 ((cA 3 rfl rfl).trans (ac _)))
    refine ae rfl ?_ ?_
    ·intro A41 n41 c41 A42 n42 c42 A43 n43 c43 A44 n44 c44
     exact bj (cc rfl rfl) rfl (ig A43 n43 c43 ((cA 2 rfl rfl).trans (ac _)))
    refine ae rfl ?_ ?_
    ·intro A41 n41 c41 A42 n42 c42 A43 n43 c43 A44 n44 c44
     exact bj (cc rfl rfl) rfl (zA A41 n41 c41 A42 n42 c42 ((cA 0 rfl rfl).trans ((cA 2 rfl rfl).trans (ab [1, 0, 2, 3, 4, 5, 6, 7, 8, 9, 10, 11, 12, 13] 14 rfl rfl))))
    refine ae rfl ?_ ?_
    ·intro A37 n37 c37 A38 n38 c38 A39 n39 c39 A40 n40 c40
     exact bj (aI rfl) rfl (xj A37 n37 c37 A38 n38 c38 A39 n39 c39 A40 n40 c40 ((cA 0 rfl rfl).trans ((cA 2 rfl rfl).trans ((cA 4 rfl rfl).trans ((cA 6 rfl rfl).trans (ab [3, 2, 1, 0, 4, 5, 6, 7, 8, 9, 10, 11, 12, 13, 14, 15] 16 rfl rfl))))))
    refine ae rfl ?_ ?_
    ·intro A31 n31 c31
     refine jy (cg (ks hy32) BS rfl (bO [6, 7, 2, 0] [] [0, 1, 2, 3, 4, 5, 6, 7, 8] 9 rfl)) rfl ?_
     rintro _ _ ⟨_, ⟨A33, n33, c33, A34, n34, c34, A35, n35, c35, A36, n36, c36, rfl, rfl⟩, rfl⟩
     exact xj A33 n33 c33 A34 n34 c34 A35 n35 c35 A36 n36 c36 ((cL 0 rfl).trans ((cL 1 rfl).trans ((cL 2 rfl).trans ((cL 3 rfl).trans (ac _)))))
    refine ae rfl ?_ ?_
    ·refine jy (al (um hy29) CJ rfl (mem_cons (am (i := 5) rfl rfl) (mem_cons (am (i := 6) rfl rfl) aj)) rR) rfl ?_
     rintro _ _ ⟨_, ⟨A30, n30, c30, rfl, rfl⟩, rfl⟩
     exact ig A30 n30 c30 ((cL 0 rfl).trans (ac _))
    refine ae rfl ?_ ?_
    ·exact bW (aE (us := [.slice A23 n23 c23, .slice A24 n24 c24]) 7 rfl rfl ex rfl) rfl (aD rfl (ac _))
    refine ae rfl ?_ ?_
    ·exact bj (aI rfl) rfl (aD rfl (ac _))
    refine ae rfl ?_ ?_
    ·exact bW (aE (us := [.slice A23 n23 c23, .slice A24 n24 c24]) 7 rfl rfl ex rfl) rfl (aD rfl (ac _))
    exact db
   intro A49 n49 c49 A50 n50 c50 A53 n53 c53 A55 n55 c55 B58
   refine jN (t := [(33, .agg #[.slice A49 n49 c49, .slice A50 n50 c50]), (34, .slice A53 n53 c53), (35, .slice A55 n55 c55), (36, iV y32.2.2.2), (8, pV B58 0), (1, .slice A18 n18 c18), (2, pV B4 0), (4, .bool false), (5, pV B15 0), (6, .slice A19 n19 c19), (7, iV p20)]) (L' := [aR A49 n49 c49 y32.1.Young, aR A50 n50 c50 y32.1.Old, aF A53 n53 c53 y32.2.1, aF A55 n55 c55 y32.2.2.1, aq B58 24 [.slice none 0 0, .slice none 0 0], aF A18 n18 c18 p18, aF A19 n19 c19 p19, aR A21 n21 c21 p21, aR A22 n22 c22 p22, aq B4 24 [.slice A21 n21 c21, .slice A22 n22 c22], aR A23 n23 c23 p23, aR A24 n24 c24 p24, aq B15 24 [.slice A23 n23 c23, .slice A24 n24 c24]]) ?_ gX (ac _)
   refine mq 11 rfl (by kernel_rfl) (ay (us := [.slice A49 n49 c49, .slice A50 n50 c50]) (cs' := [.slice A49 n49 c49, .slice A50 n50 c50]) 4 rfl rfl rfl rfl lF rfl rfl rfl) rfl rfl ?_
   rintro _ _ rfl
   refine uf ([aR A49 n49 c49 y32.1.Young, aR A50 n50 c50 y32.1.Old, aF A53 n53 c53 y32.2.1, aF A55 n55 c55 y32.2.2.1, aq B58 24 [.slice A49 n49 c49, .slice A50 n50 c50], aF A18 n18 c18 p18, aF A19 n19 c19 p19, aR A21 n21 c21 p21, aR A22 n22 c22 p22, aq B4 24 [.slice A21 n21 c21, .slice A22 n22 c22], aR A23 n23 c23 p23, aR A24 n24 c24 p24, aq B15 24 [.slice A23 n23 c23, .slice A24 n24 c24]]) rfl ?_
   refine oZ 12 rfl (by kernel_rfl) (bP rfl) rfl rfl rfl ?_
   refine oZ 13 rfl (by kernel_rfl) (bP rfl) rfl rfl rfl ?_
   refine oZ 14 rfl (by kernel_rfl) (bP rfl) rfl rfl rfl ?_
   refine gM (by kernel_rfl) ?_
   refine kO ?_
   refine av ?_
   refine run ?_
   refine ar rfl (fun g59 => ?_) (fun g59 => ?_)
   ·replace h := ag g59 h
    refine run ?_
    obtain ⟨b60, hb60, h⟩ := aa h
    refine aw 5 46 b60 ?_ ?_
    ·clear h
     refine ax 41 rfl (fun g60 => ?_) (fun g60 => ?_)
     ·have h := ag g60 hb60
      refine aZ (aE (us := [.slice A21 n21 c21, .slice A22 n22 c22]) 9 rfl rfl ex rfl) rfl (aJ g60 rfl) rfl ?_
      refine run ?_
      obtain ⟨y61, hy61, h⟩ := aa h
      refine bM (al (pN hy61) zV rfl (mem_cons (am (i := 7) rfl rfl) (mem_cons (am (i := 8) rfl rfl) (mem_cons (am (i := 5) rfl rfl) aj))) na) rfl (aJ g60 rfl) rfl ?_
      rintro _ _ ⟨_, ⟨rfl, rfl⟩, rfl⟩
      refine run ?_
      obtain rfl := ak h
      exact ad sA (ab [0, 1, 2, 3, 4, 5, 6, 7, 8, 9, 10, 11, 12] 13 rfl rfl)
     have h := ah g60 hb60
     refine run ?_
     obtain rfl := ak h
     exact ad sA (ab [0, 1, 2, 3, 4, 5, 6, 7, 8, 9, 10, 11, 12] 13 rfl rfl)
    refine run ?_
    obtain rfl := ak h
    exact aB rfl rfl (ab [] 13 rfl rfl) ⟨rfl, rfl⟩
   replace h := ah g59 h
   refine run ?_
   refine av ?_
   refine run ?_
   refine gR (az 0 rfl ai rfl Try.underlying22) ?_
   refine run ?_
   refine gR (az 1 rfl ai rfl Try.underlying22) ?_
   obtain ⟨q62, h⟩ := ao h
   refine gE (aN rfl rfl q62.1 q62.2) ?_
   refine run ?_
   refine gR (bd 12 rfl rfl fD rfl) ?_
   refine gR (az 10 rfl ai rfl Try.underlying22) ?_
   refine run ?_
   refine gR (bd 12 rfl rfl fD rfl) ?_
   refine gR (az 11 rfl ai rfl Try.underlying22) ?_
   obtain ⟨q63, h⟩ := ao h
   refine gE (aN rfl rfl q63.1 q63.2) ?_
   refine run ?_
   obtain ⟨b64, hb64, h⟩ := aa h
   refine aw 9 71 b64 ?_ ?_
   ·clear h
    refine ax 62 rfl (fun g64 => ?_) (fun g64 => ?_)
    ·have h := ag g64 hb64
     refine run ?_
     obtain rfl := ak h
     exact ad sA (ab [0, 1, 2, 3, 4, 5, 6, 7, 8, 9, 10, 11, 12] 13 rfl rfl)
    have h := ah g64 hb64
    refine run ?_
    obtain ⟨b65, hb65, h⟩ := aa h
    refine aw 5 70 b65 ?_ ?_
    ·clear h
     refine ax 65 rfl (fun g65 => ?_) (fun g65 => ?_)
     ·have h := ag g65 hb65
      refine run ?_
      refine aZ (az 0 rfl ai rfl Try.underlying22) rfl (aJ g65 rfl) rfl ?_
      refine run ?_
      obtain rfl := ak h
      exact ad sA (ab [0, 1, 2, 3, 4, 5, 6, 7, 8, 9, 10, 11, 12] 13 rfl rfl)
     have h := ah g65 hb65
     refine run ?_
     obtain rfl := ak h
     exact ad sA (ab [0, 1, 2, 3, 4, 5, 6, 7, 8, 9, 10, 11, 12] 13 rfl rfl)
    refine run ?_
    obtain rfl := ak h
    exact ad sA (ab [0, 1, 2, 3, 4, 5, 6, 7, 8, 9, 10, 11, 12] 13 rfl rfl)
   refine run ?_
   obtain ⟨b66, hb66, h⟩ := aa h
   refine aw 5 77 b66 ?_ ?_
   ·clear h
    refine ax 72 rfl (fun g66 => ?_) (fun g66 => ?_)
    ·have h := ag g66 hb66
     refine run ?_
     obtain rfl := ak h
     exact ad sA (ab [0, 1, 2, 3, 4, 5, 6, 7, 8, 9, 10, 11, 12] 13 rfl rfl)
    have h := ah g66 hb66
    refine aZ (aE (us := [.slice A49 n49 c49, .slice A50 n50 c50]) 4 rfl rfl ex rfl) rfl (cO g66 rfl) rfl ?_
    refine run ?_
    obtain ⟨y67, hy67, h⟩ := aa h
    refine bM (al (pN hy67) zV rfl (mem_cons (am (i := 0) rfl rfl) (mem_cons (am (i := 1) rfl rfl) (mem_cons (am (i := 2) rfl rfl) aj))) na) rfl (cO g66 rfl) rfl ?_
    rintro _ _ ⟨_, ⟨rfl, rfl⟩, rfl⟩
    refine run ?_
    obtain rfl := ak h
    exact ad sA (ab [0, 1, 2, 3, 4, 5, 6, 7, 8, 9, 10, 11, 12] 13 rfl rfl)
   refine run ?_
   refine ar rfl (fun g68 => ?_) (fun g68 => ?_)
   ·replace h := ag g68 h
    refine run ?_
    obtain rfl := ak h
    exact aB rfl rfl (ab [] 13 rfl rfl) ⟨rfl, rfl⟩
   replace h := ah g68 h
   refine run ?_
   refine av ?_
   refine run ?_
   obtain ⟨b69, hb69, h⟩ := aa h
   refine aw 11 91 b69 ?_ ?_
   ·clear h
    refine ax 80 rfl (fun g69 => ?_) (fun g69 => ?_)
    ·have h := ag g69 hb69
     refine aZ (aE (us := [.slice A49 n49 c49, .slice A50 n50 c50]) 4 rfl rfl ex rfl) rfl (aJ g69 rfl) rfl ?_
     refine aZ (aE (us := [.slice A23 n23 c23, .slice A24 n24 c24]) 12 rfl rfl ex rfl) rfl (aJ g69 rfl) rfl ?_
     obtain ⟨y70, hy70, h⟩ := aa h
     refine bM (al (ux hy70) CI rfl (mem_cons (am (i := 0) rfl rfl) (mem_cons (am (i := 1) rfl rfl) (mem_cons (am (i := 10) rfl rfl) (mem_cons (am (i := 11) rfl rfl) aj)))) rU) rfl (aJ g69 rfl) rfl ?_
     rintro _ _ ⟨_, ⟨rfl, rfl⟩, rfl⟩
     refine run ?_
     obtain ⟨b71, hb71, h⟩ := aa h
     refine aw 5 90 b71 ?_ ?_
     ·clear h
      refine ax 85 rfl (fun g71 => ?_) (fun g71 => ?_)
      ·have h := ag g71 hb71
       refine run ?_
       obtain rfl := ak h
       exact ad sA (ab [0, 1, 2, 3, 4, 5, 6, 7, 8, 9, 10, 11, 12] 13 rfl rfl)
      have h := ah g71 hb71
      refine run ?_
      obtain ⟨y72, hy72, h⟩ := aa h
      refine bM (al (gi hy72) wz rfl (mem_cons (am (i := 2) rfl rfl) (mem_cons (am (i := 6) rfl rfl) aj)) fv) rfl (cO g71 rfl) rfl ?_
      rintro _ _ ⟨_, ⟨rfl, rfl⟩, rfl⟩
      refine run ?_
      obtain rfl := ak h
      exact ad sA (ab [0, 1, 2, 3, 4, 5, 6, 7, 8, 9, 10, 11, 12] 13 rfl rfl)
     refine run ?_
     obtain rfl := ak h
     exact ad sA (ab [0, 1, 2, 3, 4, 5, 6, 7, 8, 9, 10, 11, 12] 13 rfl rfl)
    have h := ah g69 hb69
    refine run ?_
    obtain rfl := ak h
    exact ad sA (ab [0, 1, 2, 3, 4, 5, 6, 7, 8, 9, 10, 11, 12] 13 rfl rfl)
   refine run ?_
   refine ar rfl (fun g73 => ?_) (fun g73 => ?_)
   ·replace h := ag g73 h
    refine run ?_
    obtain rfl := ak h
    exact aB rfl rfl (ab [] 13 rfl rfl) ⟨rfl, rfl⟩
   replace h := ah g73 h
   refine run ?_
   refine gR (aE (us := [.slice A49 n49 c49, .slice A50 n50 c50]) 4 rfl rfl ex rfl) ?_
   refine run ?_
   refine gO (ay (us := [.slice A49 n49 c49, .slice A50 n50 c50]) (cs' := [.slice A49 n49 c49, .slice A50 n50 c50]) 12 rfl rfl rfl rfl lF rfl rfl rfl) ?_
   rintro _ _ rfl
   refine run ?_
   obtain ⟨q74, h⟩ := ao h
   refine gE (aN rfl rfl q74.1 q74.2) ?_
   refine run ?_
   exact ⟨m17, _, _, Nat.lt_succ_self _, ⟨p18, y32.2.1, p20 + 1, p21, p22, y32.1.Young, y32.1.Old, A18, n18, c18, A53, n53, c53, A21, n21, c21, A22, n22, c22, A49, n49, c49, A50, n50, c50, h, rfl, rfl⟩, sA, ab [5, 2, 7, 8, 9, 0, 1, 12] 13 rfl rfl⟩
  replace h := ah g28 h
  refine run ?_
  exact ⟨_, _, ⟨h, rfl, rfl⟩, sA, ab [] 8 rfl rfl⟩
 rintro _ _ ⟨h, rfl, rfl⟩
 refine run ?_
 obtain rfl := ak h
 exact aB rfl rfl (ab [] 0 rfl rfl) ⟨rfl, rfl⟩
end Go.Proofs.Ytmbaennilhdieaa
namespace Go.Proofs.Ytmbaennilhdieaa
variable {A1 A2 A3 A4 : Option Addr} {c1 c2 c3 c4 n1 n2 n3 n4 : Nat}
open Go.RowKit Asn
set_option maxRecDepth 20000
def uy (N : Nat) (a0 : DCell) : Option Bool :=
 (bif decide (a0.Kind = 8) then ((bI N a0).bind fun y5 => some y5) else (some false)).bind fun b4 => some b4
end Go.Proofs.Ytmbaennilhdieaa
namespace Go.Proofs.Ytmbaennilhdieaa
variable {A1 A2 A3 A4 : Option Addr} {c1 c2 c3 c4 n1 n2 n3 n4 : Nat}
open Go.RowKit Asn
set_option maxRecDepth 20000
end Go.Proofs.Ytmbaennilhdieaa
namespace Go.Proofs.Ytmbaennilhdieaa
variable {A1 A2 A3 A4 : Option Addr} {c1 c2 c3 c4 n1 n2 n3 n4 : Nat}
open Go.RowKit Asn
set_option maxRecDepth 20000
end Go.Proofs.Ytmbaennilhdieaa
namespace Go.Proofs.Ytmbaennilhdieaa
variable {A1 A2 A3 A4 : Option Addr} {c1 c2 c3 c4 n1 n2 n3 n4 : Nat}
open Go.RowKit Asn
set_option maxRecDepth 20000
end Go.Proofs.Ytmbaennilhdieaa
namespace Go.Proofs.Ytmbaennilhdieaa
variable {A1 A2 A3 A4 : Option Addr} {c1 c2 c3 c4 n1 n2 n3 n4 : Nat}
open Go.RowKit
structure DSide where
 M : DMemory
 Order : (List Int)
 deriving DecidableEq, Inhabited
structure DS41 where
 e0 : (List DValue)
 e1 : (List DValue)
 deriving DecidableEq, Inhabited
structure DSet where
 at_ : (List (Int × Bool))
 deriving DecidableEq, Inhabited
def vI (N : Nat) (a0 : (List DValue)) (a1 : Int) : Option Unit :=
 bif decide (a1 < 1) then none else (some ())
def vH (N : Nat) (a0 : (List Int)) : Option Unit :=
 some ()
def kj (N : Nat) (a0 : Int) (a1 : DMemory) : Option Bool :=
 (eQ N a1 a0).bind fun y4 => some (!y4)
def qj (N : Nat) : Option Bool :=
 some true
def qi (N : Nat) (kb20 : Int → Option Bool) (a0 : DMemory) (p21 : Int) : Option Bool :=
 bD (aK (p21 + 1)) (kb20 (p21 + 1))
def lj (N : Nat) (kb20 : Int → Option Bool) (a0 : DMemory) (p21 : Int) (x24 : (List DCell)) : Nat → Int → Option Bool
 | 0, _ => none
 | m26 + 1, p27 => bif decide (p27 < (x24.length : Int)) then ((aH x24 p27).bind fun x29 => (el N x29).bind fun y34 => (bif !y34 then (some true) else ((eo N x29).bind fun y36 => (bQ N y36 (fun x => kj N x a0)).bind fun y38 => some y38)).bind fun b35 => (bif b35 then (some true) else ((fH N x29).bind fun y40 => (bQ N y40 (fun x => kj N x a0)).bind fun y42 => some y42)).bind fun b39 => bif b39 then (some false) else (bD (aK (p27 + 1)) ((lj N kb20 a0 p21 x24 m26) (p27 + 1)))) else (qi N kb20 a0 p21)
def lm (N : Nat) (a0 : DMemory) : Nat → Int → Option Bool
 | 0, _ => none
 | m20 + 1, p21 => bif decide (p21 < (([a0.Young, a0.Old] : List (List DCell)).length : Int)) then ((aH ([a0.Young, a0.Old] : List (List DCell)) p21).bind fun x24 => lj N (lm N a0 m20) a0 p21 x24 N 0) else (qj N)
def yJ (N : Nat) (a0 : DMemory) : Option Bool :=
 lm N a0 N 0
def AB (N : Nat) : Option Bool :=
 some true
def BI (N : Nat) : Option Bool :=
 some true
def pf (N : Nat) (p4 : (List Int)) : Option (List Int) :=
 some p4
def kk (N : Nat) (kb5 : (List Int) → Int → Option (List Int)) (p7 : Int) (a0 : (List DValue)) (p10 : (List Int)) : Option (List Int) :=
 bD (aK (p7 + 1)) (kb5 p10 (p7 + 1))
def gC (N : Nat) (a0 : (List DValue)) : Nat → (List Int) → Int → Option (List Int)
 | 0, _, _ => none
 | m5 + 1, p6, p7 => bif decide (p7 < (a0.length : Int)) then ((aH a0 p7).bind fun x11 => (bif decide (x11.Kind = 7) then (some true) else ((aH a0 p7).bind fun x13 => some (decide (x13.Kind = 9)))).bind fun b12 => bif b12 then ((aH a0 p7).bind fun x15 => bD (cu (p6.length + ([x15.N] : List Int).length)) (kk N (gC N a0 m5) p7 a0 (p6 ++ ([x15.N] : List Int)))) else (kk N (gC N a0 m5) p7 a0 p6)) else (pf N p6)
def yr (N : Nat) (a0 : (List DValue)) : Option (List Int) :=
 gC N a0 N ([] : List Int) 0
def Cd (N : Nat) (p7 : (List Int)) : Option (List Int) :=
 some p7
def BH (N : Nat) (kb8 : (List Int) → Int → Option (List Int)) (p10 : Int) (a2 : (List Int)) (a0 : DMemory) (p13 : (List Int)) : Option (List Int) :=
 bD (aK (p10 + 1)) (kb8 p13 (p10 + 1))
def yM (N : Nat) (p6 : (List Int)) : Option (List Int) :=
 some p6
def rV (N : Nat) (p6 : (List Int)) : Option (List Int) :=
 some p6
def qX (N : Nat) (kb7 : (List Int) → Int → Option (List Int)) (p9 : Int) (p12 : (List Int)) : Option (List Int) :=
 bD (aK (p9 + 1)) (kb7 p12 (p9 + 1))
def lO (N : Nat) (kb7 : (List Int) → Int → Option (List Int)) (p9 : Int) : Nat → (List Int) → Int → Option (List Int)
 | 0, _, _ => none
 | m13 + 1, p14, p15 => (bif decide (0 < p15) then (bD (aK (p15 - 1)) ((aH p14 (p15 - 1)).bind fun x18 => (aH p14 p15).bind fun x19 => some (decide (x19 < x18)))) else (some false)).bind fun b16 => bif b16 then ((aH p14 p15).bind fun x21 => bD (aK (p15 - 1)) ((aH p14 (p15 - 1)).bind fun x23 => (aH p14 p15).bind fun x24 => bD (aK (p15 - 1)) ((aH (List.set p14 p15.toNat x23) (p15 - 1)).bind fun x26 => bD (aK (p15 - 1)) ((lO N kb7 p9 m13) (List.set (List.set p14 p15.toNat x23) ((p15 - 1).toNat) x21) (p15 - 1))))) else (qX N kb7 p9 p14)
def nc (N : Nat) : Nat → (List Int) → Int → Option (List Int)
 | 0, _, _ => none
 | m7 + 1, p8, p9 => bif decide (p9 < (p8.length : Int)) then (lO N (nc N m7) p9 N p8 p9) else (rV N p8)
def AC (N : Nat) (a0 : (List Int)) : Option (List Int) :=
 bD (cu (([] : List Int).length + a0.length)) (nc N N (([] : List Int) ++ a0) 1)
def tr (N : Nat) : Option Bool :=
 some true
def om (N : Nat) (a0 : (List DCell)) (a1 : (List DCell)) : Nat → Int → Option Bool
 | 0, _ => none
 | m5 + 1, p6 => bif decide (p6 < (a0.length : Int)) then ((aH a0 p6).bind fun x8 => (aH a1 p6).bind fun x12 => (jf N x8 x12).bind fun y16 => bif !y16 then (some false) else (bD (aK (p6 + 1)) ((om N a0 a1 m5) (p6 + 1)))) else (tr N)
def BJ (N : Nat) (a0 : (List DCell)) (a1 : (List DCell)) : Option Bool :=
 bif !decide ((a0.length : Int) = (a1.length : Int)) then (some false) else (om N a0 a1 N 0)
def tp (N : Nat) (p4 : (List DCell)) : Option (List DCell) :=
 some p4
def nb (N : Nat) (kb5 : (List DCell) → Int → Option (List DCell)) (p7 : Int) (a0 : (List DCell)) (p6 : (List DCell)) (x9 : DCell) (p15 : (List DValue)) : Option (List DCell) :=
 bD (cu (p6.length + ([(⟨x9.Kind, x9.Shape, x9.Flags, x9.Age, x9.Slots, p15⟩ : DCell)] : List DCell).length)) (bD (aK (p7 + 1)) (kb5 (p6 ++ ([(⟨x9.Kind, x9.Shape, x9.Flags, x9.Age, x9.Slots, p15⟩ : DCell)] : List DCell)) (p7 + 1)))
def kK (N : Nat) (a0 : (List DCell)) : Nat → (List DCell) → Int → Option (List DCell)
 | 0, _, _ => none
 | m5 + 1, p6, p7 => bif decide (p7 < (a0.length : Int)) then ((aH a0 p7).bind fun x9 => (bif decide (x9.Kind = 10) then ((bI N x9).bind fun y17 => some y17) else (some false)).bind fun b16 => bif b16 then (bD ((0 : Int) ≤ 1 ∧ 0 ≤ (1 : Int).toNat ∧ (1 : Int).toNat ≤ x9.More.length) (nb N (kK N a0 m5) p7 a0 p6 x9 ((x9.More.drop 0).take ((1 : Int).toNat - 0)))) else (nb N (kK N a0 m5) p7 a0 p6 x9 x9.More)) else (tp N p6)
def BF (N : Nat) (a0 : (List DCell)) : Option (List DCell) :=
 kK N a0 N ([] : List DCell) 0
def tq (N : Nat) : Option Int :=
 some (-1)
def oh (N : Nat) (a1 : Int) (a0 : (List Int)) : Nat → Int → Option Int
 | 0, _ => none
 | m3 + 1, p4 => bif decide (p4 < (a0.length : Int)) then ((aH a0 p4).bind fun x6 => bif decide (x6 = a1) then (some p4) else (bD (aK (p4 + 1)) ((oh N a1 a0 m3) (p4 + 1)))) else (tq N)
def BG (N : Nat) (a0 : (List Int)) (a1 : Int) : Option Int :=
 oh N a1 a0 N 0
def yL (N : Nat) : Option Bool :=
 some true
def ts (N : Nat) (a0 : DCell) : Option DCell :=
 bD (cu (([] : List DValue).length + a0.Slots.length)) (bD (cu (([] : List DValue).length + a0.More.length)) (some (⟨a0.Kind, a0.Shape, a0.Flags, a0.Age, ([] : List DValue) ++ a0.Slots, ([] : List DValue) ++ a0.More⟩ : DCell)))
def qk (N : Nat) (y6 : (DCell)) (p11 : (List DValue)) : Option DCell :=
 some (⟨y6.Kind, y6.Shape, y6.Flags, y6.Age, y6.Slots, p11⟩ : DCell)
def ln (N : Nat) (kb12 : Int → (List DValue) → Option DCell) (p13 : Int) (a1 : (List Bool)) (a0 : DCell) (y6 : (DCell)) (p18 : (List DValue)) : Option DCell :=
 bD (aK (p13 + 1)) (kb12 (p13 + 1) p18)
def ir (N : Nat) (a1 : (List Bool)) (a0 : DCell) (y6 : (DCell)) : Nat → Int → (List DValue) → Option DCell
 | 0, _, _ => none
 | m12 + 1, p13, p14 => bif decide (p13 < (a1.length : Int)) then ((aH a1 p13).bind fun x19 => bif x19 then (bD (aK (2 * p13)) ((aH a0.More (2 * p13)).bind fun x22 => bD (aK (2 * p13)) (bD (aK ((2 * p13) + 1)) ((aH a0.More ((2 * p13) + 1)).bind fun x25 => bD (cu (p14.length + ([x22, x25] : List DValue).length)) (ln N (ir N a1 a0 y6 m12) p13 a1 a0 y6 (p14 ++ ([x22, x25] : List DValue))))))) else (ln N (ir N a1 a0 y6 m12) p13 a1 a0 y6 p14)) else (qk N y6 p14)
def rW (N : Nat) (a0 : DCell) (a1 : (List Bool)) : Option DCell :=
 (ts N a0).bind fun y6 => ir N a1 a0 y6 N 0 []
def Ao (N : Nat) (a0 : DCell) (p11 : (List Bool)) : Option DCell :=
 (rW N a0 p11).bind fun y23 => some y23
def An (N : Nat) : Option Bool :=
 some true
def AI (N : Nat) (a0 : DMemory) (a1 : (List DValue)) (a2 : (List Int)) : Option (List Int) :=
 (ib N a0 a1 a2).bind fun y6 => bif !y6 then (some []) else ((fY N a0 a1 a2).bind fun y9 => some y9.met_)
def vB (N : Nat) (y41 : ((List Int))) (p44 : Int) : Option Bool :=
 some (decide (p44 = (y41.length : Int)))
def vA (N : Nat) (kb45 : Int → Int → Option Bool) (p47 : Int) (y37 : ((List Int))) (y41 : ((List Int))) (p50 : Int) : Option Bool :=
 bD (aK (p47 + 1)) (kb45 p50 (p47 + 1))
end Go.Proofs.Ytmbaennilhdieaa
namespace Go.Proofs.Ytmbaennilhdieaa
variable {A1 A2 A3 A4 : Option Addr} {c1 c2 c3 c4 n1 n2 n3 n4 : Nat}
open Go.RowKit
def Sat {ρ : Type} (m : Option ρ) (R : ρ → Prop) : Prop := ∃ r, m = some r ∧ R r
theorem aP {ρ : Type} {x : ρ} {R : ρ → Prop} (h : R x) : Sat (some x) R := ⟨x, rfl, h⟩
theorem Sat.eq {ρ : Type} {m : Option ρ} {x : ρ} (h : Sat m (· = x)) : m = some x := by obtain ⟨r, h1, rfl⟩ := h; exact h1
theorem Sat.mono {ρ : Type} {m : Option ρ} {R Q : ρ → Prop} (h : Sat m R) (k : ∀ x, R x → Q x) : Sat m Q := by obtain ⟨r, h1, h2⟩ := h; exact ⟨r, h1, k _ h2⟩
theorem Sat.bind {ρ σ : Type} {m : Option σ} {f : σ → Option ρ} {P : σ → Prop} {R : ρ → Prop} (h : Sat m P) (k : ∀ x, P x → Sat (f x) R) : Sat (m.bind f) R := by obtain ⟨x, rfl, h2⟩ := h; exact k x h2
theorem i7 {ρ : Type} {b : Bool} {x y : Option ρ} {R : ρ → Prop} (h1 : b = true → Sat x R) (h2 : b = false → Sat y R) : Sat (bif b then x else y) R := by cases b with | true => exact h1 rfl | false => exact h2 rfl
theorem cP {ρ : Type} {p : Prop} [Decidable p] {x y : Option ρ} {R : ρ → Prop} (h1 : p → Sat x R) (h2 : ¬ p → Sat y R) : Sat (bif decide p then x else y) R := by
 by_cases h : p
 ·rw [decide_eq_true h]; exact h1 h
 rw [decide_eq_false h]; exact h2 h
theorem bs {ρ σ : Type} {x : σ} {f : σ → Option ρ} : (some x).bind f = f x := Eq.trans rfl rfl
theorem ct {ρ : Type} {x y : ρ} : (bif true then x else y) = x := Eq.trans rfl rfl
theorem cf {ρ : Type} {x y : ρ} : (bif false then x else y) = y := Eq.trans rfl rfl
theorem nt : (!true) = false := Eq.trans rfl rfl
theorem nf : (!false) = true := Eq.trans rfl rfl
theorem cy {a b : Int} (h : a < b) : decide (a < b) = true := decide_eq_true h
theorem ci {a b : Int} (h : b ≤ a) : decide (a < b) = false := decide_eq_false (by omega)
theorem zl {a b : Int} (h : a ≤ b) : decide (a ≤ b) = true := decide_eq_true h
theorem zm {a b : Int} (h : b < a) : decide (a ≤ b) = false := decide_eq_false (by omega)
theorem mW {a b : Int} (h : a = b) : decide (a = b) = true := decide_eq_true h
theorem ej {a b : Int} (h : a ≠ b) : decide (a = b) = false := decide_eq_false h
theorem iC {ρ : Type} {b : Prop} [Decidable b] {m : Option ρ} (h : b) : bD b m = m := if_pos h
theorem r64 {ρ : Type} {a : Int} {m : Option ρ} (h1 : -9000000000000000000 ≤ a) (h2 : a ≤ 9000000000000000000) : bD (aK a) m = m := if_pos ⟨by omega, by omega⟩
theorem rF {ρ : Type} {n : Nat} {m : Option ρ} (h : n ≤ 1000000) : bD (cu n) m = m := if_pos (by unfold cu; omega)
theorem AO {α : Type} {xs : List α} {i : Int} (h0 : 0 ≤ i) (h1 : i.toNat < xs.length) : aH xs i = some xs[i.toNat] := by
 unfold aH
 rw [if_neg (by omega), List.getElem?_eq_getElem h1]
theorem aY {α : Type} {xs : List α} {i : Nat} (h1 : i < xs.length) : aH xs (i : Int) = some xs[i] := by
 unfold aH
 rw [if_neg (by omega), Int.toNat_natCast, List.getElem?_eq_getElem h1]
theorem ce {σ ρ : Type} (L : Nat → Nat → σ → Option ρ) (n : Nat) (Inv : Nat → σ → Prop) (R : ρ → Prop)
  (round : ∀ m i s, i < n → Inv i s → (∀ s', Inv (i + 1) s' → Sat (L m (i + 1) s') R) → Sat (L (m + 1) i s) R)
  (fin : ∀ m s, Inv n s → Sat (L (m + 1) n s) R) : ∀ m i s, n < m + i → i ≤ n → Inv i s → Sat (L m i s) R
 | 0, i, s, h, h2, _ => by omega
 | m + 1, i, s, h, h2, hi => by
  by_cases e : i = n
  ·subst e; exact fin m s hi
  exact round m i s (by omega) hi fun s' h' => ce L n Inv R round fin m (i + 1) s' (by omega) (by omega) h'
theorem rn {σ ρ : Type} (L : Nat → σ → Option ρ) (v : σ → Nat) (Inv : σ → Prop) (R : ρ → Prop)
  (round : ∀ m s, Inv s → (∀ s', v s' < v s → Inv s' → Sat (L m s') R) → Sat (L (m + 1) s) R) : ∀ m s, v s < m → Inv s → Sat (L m s) R
 | 0, _, h, _ => by omega
 | m + 1, s, h, hi => round m s hi fun s' h1 h2 => rn L v Inv R round m s' (by omega) h2
theorem bg {α : Type} {l : List α} {i : Nat} (h : i < l.length) : l.take (i + 1) = l.take i ++ [l[i]] := by
 rw [List.take_add_one, List.getElem?_eq_getElem h]; rfl
end Go.Proofs.Ytmbaennilhdieaa
namespace Go.Proofs.Ytmbaennilhdieaa
variable {A1 A2 A3 A4 : Option Addr} {c1 c2 c3 c4 n1 n2 n3 n4 : Nat}
open Go.RowKit
end Go.Proofs.Ytmbaennilhdieaa
namespace Go.Proofs.Ytmbaennilhdieaa
variable {A1 A2 A3 A4 : Option Addr} {c1 c2 c3 c4 n1 n2 n3 n4 : Nat}
open Go.RowKit
theorem jn {α : Type} (xs : List α) (i : Nat) : aH xs (i : Int) = xs[i]? := by
 unfold aH; rw [if_neg (by omega)]; simp
theorem qo {ρ : Type} {b : Prop} [Decidable b] {m : Option ρ} (h : b) : bD b m = m := if_pos h
def bn (v : DValue) : Bool := decide (v.Kind = 7) || decide (v.Kind = 9)
def eG (k : Int) (i : Nat) : Bool := !decide (k = 8) && (!decide (k = 10) || decide ((i : Int).tmod 2 = 0))
def pick (f : Nat → DValue → Bool) : Nat → List DValue → List Int
 | _, [] => []
 | i, v :: l => (bif f i v then [v.N] else []) ++ pick f (i + 1) l
theorem fh (f : Nat → DValue → Bool) (i : Nat) (v : DValue) (l : List DValue) : pick f i (v :: l) = (bif f i v then [v.N] else []) ++ pick f (i + 1) l := rfl
theorem ox (f : Nat → DValue → Bool) : ∀ (i : Nat) (l : List DValue), (pick f i l).length ≤ l.length
 | _, [] => Nat.le_refl _
 | i, v :: l => by
  have := ox f (i + 1) l
  unfold pick
  cases f i v <;> simp <;> omega
theorem sm : ∀ (i : Nat) (l : List DValue), pick (fun _ _ => false) i l = []
 | _, [] => rfl
 | i, v :: l => by unfold pick; simp [sm (i + 1) l]
theorem iu (N : Nat) (v : DValue) : fk N v = some (bn v) := by
 unfold fk bn; cases decide (v.Kind = 7) <;> rfl
theorem kG (N : Nat) (v : DValue) : iU N v = some (bn v) := by
 unfold iU bn; cases decide (v.Kind = 7) <;> rfl
theorem sQ (N : Nat) (a b : Bool) (x : DValue) (p : List Int) (h : p.length ≤ 5000) : cm (fun x st => cv N a x st) (b, x) (none, p) = some (true, (none, p ++ (bif (b == a) && bn x then [x.N] else []))) := by
 unfold cm cv
 simp only [iu, Option.bind_some]
 cases b == a
 ·simp
 cases bn x
 ·simp
 have : cu (p.length + [x.N].length) := by unfold cu; simp only [List.length_cons, List.length_nil]; omega
 simp only [cond_true, Option.bind_some, Bool.and_self]
 rw [qo this]
 rfl
theorem xA (N : Nat) (a : Bool) (c : DCell) (hc : c.More.length ≤ 1000) (K : Nat) (hK : K ≤ 1000) : ∀ (m i : Nat) (p : List Int), c.More.length < m + i → i ≤ c.More.length → p.length ≤ K + i → cell_all_c1_l15 N (cm (fun x st => cv N a x st)) c m (i : Int) (none, p) = some (none, p ++ pick (fun i v => (eG c.Kind i == a) && bn v) i (c.More.drop i))
 | 0, i, p, h, h2, _ => by omega
 | m + 1, i, p, h, h2, h3 => by
  rw [cell_all_c1_l15.eq_2]
  by_cases hi : i < c.More.length
  ·rw [show (decide ((i : Int) < (c.More.length : Int))) = true from decide_eq_true (by omega), jn, List.getElem?_eq_getElem hi, List.drop_eq_getElem_cons hi]
   simp only [cond_true, Option.bind_some]
   have hs : (bif !decide (c.Kind = 8) then ((bif !decide (c.Kind = 10) then (some true) else (some (decide ((i : Int).tmod 2 = 0)))).bind fun b22 => some b22) else (some false)) = some (eG c.Kind i) := by
    unfold eG; cases decide (c.Kind = 8) <;> cases decide (c.Kind = 10) <;> rfl
   rw [hs]
   simp only [Option.bind_some]
   rw [sQ N a _ _ _ (by omega)]
   rw [Option.bind_some]
   dsimp only
   rw [Bool.not_true, cond_false]
   rw [qo (by unfold aK; omega)]
   have hlen : (p ++ (bif (eG c.Kind i == a) && bn c.More[i] then [c.More[i].N] else [])).length ≤ K + (i + 1) := by
    cases (eG c.Kind i == a) && bn c.More[i] <;> simp <;> omega
   have := xA N a c hc K hK m (i + 1) _ (by omega) hi hlen
   simp only [Int.natCast_add, Int.cast_ofNat_Int] at this
   rw [this]
   rw [fh, List.append_assoc]
  rw [show (decide ((i : Int) < (c.More.length : Int))) = false from decide_eq_false (by omega), List.drop_eq_nil_of_le (by omega)]
  simp [pick]
theorem Ac (N : Nat) (hN : 2000 < N) (a : Bool) (c : DCell) (hS : c.Slots.length ≤ 1000) (hc : c.More.length ≤ 1000) : ∀ (m i : Nat) (p : List Int), c.Slots.length < m + i → i ≤ c.Slots.length → p.length ≤ i → cell_all_c1_l6 N (cm (fun x st => cv N a x st)) c m (i : Int) (none, p) = some (none, (p ++ pick (fun _ v => (true == a) && bn v) i (c.Slots.drop i)) ++ pick (fun i v => (eG c.Kind i == a) && bn v) 0 c.More)
 | 0, i, p, h, h2, _ => by omega
 | m + 1, i, p, h, h2, h3 => by
  rw [cell_all_c1_l6.eq_2]
  by_cases hi : i < c.Slots.length
  ·rw [show (decide ((i : Int) < (c.Slots.length : Int))) = true from decide_eq_true (by omega), jn, List.getElem?_eq_getElem hi, List.drop_eq_getElem_cons hi]
   simp only [cond_true, Option.bind_some]
   rw [sQ N a _ _ _ (by omega)]
   rw [Option.bind_some]
   dsimp only
   rw [Bool.not_true, cond_false]
   rw [qo (by unfold aK; omega)]
   have hlen : (p ++ (bif (true == a) && bn c.Slots[i] then [c.Slots[i].N] else [])).length ≤ (i + 1) := by
    cases (true == a) && bn c.Slots[i] <;> simp <;> omega
   have := Ac N hN a c hS hc m (i + 1) _ (by omega) hi hlen
   simp only [Int.natCast_add, Int.cast_ofNat_Int] at this
   rw [this]
   rw [fh, List.append_assoc p]
  rw [show (decide ((i : Int) < (c.Slots.length : Int))) = false from decide_eq_false (by omega), List.drop_eq_nil_of_le (by omega)]
  simp only [cond_false, jt]
  have := xA N a c hc p.length (by omega) N 0 p (by omega) (by omega) (by omega)
  simp only [Int.natCast_zero, Int.cast_ofNat_Int] at this
  rw [this]
  simp [pick]
theorem mo (N : Nat) (hN : 2000 < N) (a : Bool) (c : DCell) (hS : c.Slots.length ≤ 1000) (hc : c.More.length ≤ 1000) : d9 N c a = some (pick (fun _ v => (true == a) && bn v) 0 c.Slots ++ pick (fun i v => (eG c.Kind i == a) && bn v) 0 c.More) := by
 unfold d9 ju fG
 have := Ac N hN a c hS hc N 0 [] (by omega) (by omega) (by simp)
 simp only [Int.natCast_zero, Int.cast_ofNat_Int] at this
 rw [Option.bind_some, this, Option.bind_some]
 show some _ = some _
 simp
def eE (k : Int) (i : Nat) : Bool := decide (k = 8) || (decide (k = 10) && (decide (0 < (i : Int)) && decide ((((i : Int) - 1).tmod 4).tmod 2 = 0)))
theorem sd (N : Nat) (k : Int) (i : Nat) (hi : i ≤ 5000) : jd N k (i : Int) = some (eE k i) := by
 unfold jd eE
 by_cases h1 : k = 8
 ·simp [h1]
 by_cases h2 : k = 10
 ·by_cases h3 : (0 : Int) < i
  ·subst h2; simp only [h3, decide_true, ct, bs, r64 (a := (i : Int) - 1) (by omega) (by omega), show decide ((10 : Int) = 8) = false from rfl, cf, Bool.false_or, Bool.true_and]
  subst h2; simp only [h3, decide_true, decide_false, ct, bs, show decide ((10 : Int) = 8) = false from rfl, cf, Bool.false_or, Bool.true_and, Bool.false_and]
 simp [h1, h2]
theorem qR (N : Nat) (hN : 2000 < N) (c : DCell) (hS : c.Slots.length ≤ 1000) (hc : c.More.length ≤ 1000) : eR N c = some (pick (fun _ v => bn v) 0 c.Slots ++ pick (fun i v => !eE c.Kind i && bn v) 0 c.More) := by
 apply Sat.eq
 unfold eR
 refine ce (fun m i s => r15_Leads_l6 N c m s (i : Int)) c.Slots.length (fun i s => s ++ pick (fun _ v => bn v) i (c.Slots.drop i) = pick (fun _ v => bn v) 0 c.Slots ∧ s.length ≤ i) _ ?_ ?_ N 0 [] (by omega) (by omega) ⟨by simp, by simp⟩
 ·rintro m i s hi ⟨h1, h2⟩ k
  show Sat (r15_Leads_l6 N c (m + 1) s i) _
  rw [List.drop_eq_getElem_cons hi, fh] at h1
  rw [r15_Leads_l6.eq_2, cy (by omega), cond_true, aY hi, bs, kG, bs]
  simp only [bs]
  cases hh : bn c.Slots[i]
  all_goals
   simp only [hh, ct, cf, bs, List.nil_append] at h1 ⊢
   first
   |(unfold fC
     rw [r64 (by omega) (by omega)]
     exact k s ⟨h1, by omega⟩)
   |(rw [rF (by simp; omega)]
     unfold fC
     rw [r64 (by omega) (by omega)]
     exact k _ ⟨by rw [List.append_assoc]; exact h1, by simp; omega⟩)
 rintro m s ⟨h1, h2⟩
 show Sat (r15_Leads_l6 N c (m + 1) s _) _
 rw [List.drop_length] at h1
 have h1 : s = pick (fun _ v => bn v) 0 c.Slots := by rw [← h1]; simp [pick]
 rw [r15_Leads_l6.eq_2, ci (by omega), cond_false, ← h1]
 unfold kM
 clear h1
 refine ce (fun m i s => r15_Leads_l23 N c m s (i : Int)) c.More.length (fun i t => t ++ pick (fun i v => !eE c.Kind i && bn v) i (c.More.drop i) = s ++ pick (fun i v => !eE c.Kind i && bn v) 0 c.More ∧ t.length ≤ 1000 + i) _ ?_ ?_ N 0 s (by omega) (by omega) ⟨by simp, by omega⟩
 ·rintro m i s hi ⟨h1, h2⟩ k
  show Sat (r15_Leads_l23 N c (m + 1) s i) _
  rw [List.drop_eq_getElem_cons hi, fh] at h1
  rw [r15_Leads_l23.eq_2, cy (by omega), cond_true, aY hi, bs, kG, bs, sd _ _ _ (by omega)]
  simp only [bs]
  cases hh : bn c.More[i] <;> cases hw : eE c.Kind i
  all_goals
   simp only [hh, hw, Bool.and_true, Bool.and_false, nt, nf, ct, cf, bs, List.nil_append] at h1 ⊢
   first
   |(unfold fB
     rw [r64 (by omega) (by omega)]
     exact k s ⟨h1, by omega⟩)
   |(rw [rF (by simp; omega)]
     unfold fB
     rw [r64 (by omega) (by omega)]
     exact k _ ⟨by rw [List.append_assoc]; exact h1, by simp; omega⟩)
 rintro m s ⟨h1, h2⟩
 show Sat (r15_Leads_l23 N c (m + 1) s _) _
 rw [List.drop_length] at h1
 rw [r15_Leads_l23.eq_2, ci (by omega), cond_false]
 exact aP (by rw [← h1]; simp [pick])
theorem pJ (k : Int) (i : Nat) : eG k i = !eE k i := by
 unfold eG eE
 by_cases h8 : k = 8
 ·subst h8; rfl
 by_cases h10 : k = 10
 ·subst h10
  have e0 : (i : Int).tmod 2 = (i : Int) % 2 := Int.tmod_eq_emod_of_nonneg (by omega)
  by_cases hi : (0 : Int) < i
  ·have e1 : ((i : Int) - 1).tmod 4 = ((i : Int) - 1) % 4 := Int.tmod_eq_emod_of_nonneg (by omega)
   have e2 : (((i : Int) - 1) % 4).tmod 2 = (((i : Int) - 1) % 4) % 2 := Int.tmod_eq_emod_of_nonneg (by omega)
   rw [e0, e1, e2]
   by_cases h : (i : Int) % 2 = 0
   ·have h2 : ¬ (((i : Int) - 1) % 4) % 2 = 0 := by omega
    rw [decide_eq_true h, decide_eq_false h2, decide_eq_true hi]; rfl
   have h2 : (((i : Int) - 1) % 4) % 2 = 0 := by omega
   rw [decide_eq_false h, decide_eq_true h2, decide_eq_true hi]; rfl
  have : i = 0 := by omega
  subst this; rfl
 simp [h8, h10]
def bv (c : DCell) : List Int := pick (fun _ v => bn v) 0 c.Slots ++ pick (fun i v => !eE c.Kind i && bn v) 0 c.More
theorem nG (N : Nat) (hN : 2000 < N) (c : DCell) (hS : c.Slots.length ≤ 1000) (hc : c.More.length ≤ 1000) : eo N c = some (bv c) := by
 unfold eo bv
 rw [mo N hN true c hS hc, bs]
 have e1 : (fun (_ : Nat) (v : DValue) => (true == true) && bn v) = fun _ v => bn v := by funext i v; rfl
 have e2 : (fun (i : Nat) (v : DValue) => (eG c.Kind i == true) && bn v) = fun i v => !eE c.Kind i && bn v := by funext i v; rw [pJ]; cases eE c.Kind i <;> rfl
 rw [e1, e2]
theorem sy (N : Nat) (hN : 2000 < N) (c : DCell) (hS : c.Slots.length ≤ 1000) (hc : c.More.length ≤ 1000) : eR N c = some (bv c) := qR N hN c hS hc
theorem jm (c : DCell) : (bv c).length ≤ c.Slots.length + c.More.length := by
 unfold bv
 have h1 := ox (fun _ v => bn v) 0 c.Slots
 have h2 := ox (fun i v => !eE c.Kind i && bn v) 0 c.More
 rw [List.length_append]; omega
theorem ov {f : Nat → DValue → Bool} {x : Int} : ∀ {i : Nat} {l : List DValue}, x ∈ pick f i l → ∃ v ∈ l, v.N = x
 | _, [], h => by cases h
 | i, v :: l, h => by
  rw [fh, List.mem_append] at h
  rcases h with h | h
  ·cases hf : f i v
   ·rw [hf] at h; cases h
   rw [hf] at h; exact ⟨v, by simp, (List.mem_singleton.1 h).symm⟩
  obtain ⟨w, h1, h2⟩ := ov h
  exact ⟨w, by simp [h1], h2⟩
theorem wb {c : DCell} {x : Int} (h : x ∈ bv c) : ∃ v ∈ c.Slots ++ c.More, v.N = x := by
 unfold bv at h
 rcases List.mem_append.1 h with h | h
 ·obtain ⟨v, h1, h2⟩ := ov h; exact ⟨v, by simp [h1], h2⟩
 obtain ⟨v, h1, h2⟩ := ov h; exact ⟨v, by simp [h1], h2⟩
end Go.Proofs.Ytmbaennilhdieaa
namespace Go.Proofs.Ytmbaennilhdieaa
variable {A1 A2 A3 A4 : Option Addr} {c1 c2 c3 c4 n1 n2 n3 n4 : Nat}
open Go.RowKit
def sc : DCell := ⟨0, 0, 0, 0, [], []⟩
def dU (m : DMemory) (a : Int) : Option DCell := if a < 1 then none else if a % 2 = 1 then m.Young[((a - 1) / 2).toNat]? else m.Old[((a - 2) / 2).toNat]?
def bS (m : DMemory) (a : Int) : Bool := (dU m a).isSome
def cU (m : DMemory) (a : Int) : DCell := (dU m a).getD sc
structure Small (m : DMemory) (roots : List DValue) : Prop where
 young : m.Young.length ≤ 600
 old : m.Old.length ≤ 600
 roots : roots.length ≤ 600
 cells : ∀ c ∈ m.Young ++ m.Old, c.Slots.length ≤ 600 ∧ c.More.length ≤ 600
theorem ld {m : DMemory} {a : Int} {c : DCell} (h : dU m a = some c) : c ∈ m.Young ++ m.Old := by
 unfold dU at h
 split at h
 ·cases h
 split at h
 ·exact List.mem_append_left _ (List.mem_of_getElem? h)
 exact List.mem_append_right _ (List.mem_of_getElem? h)
theorem Small.at_ {m : DMemory} {roots : List DValue} (h : Small m roots) (a : Int) : (cU m a).Slots.length ≤ 600 ∧ (cU m a).More.length ≤ 600 := by
 unfold cU
 cases hc : dU m a with
 | none => exact ⟨by simp [sc], by simp [sc]⟩
 | some c => exact h.cells c (ld hc)
theorem uS {m : DMemory} {a : Int} (h : bS m a = true) : 0 < a := by
 unfold bS dU at h
 split at h
 ·cases h
 omega
theorem xb {m : DMemory} {roots : List DValue} (hs : Small m roots) {a : Int} (h : bS m a = true) : a ≤ 1200 := by
 have h1 := hs.young; have h2 := hs.old
 unfold bS dU at h
 split at h
 ·cases h
 split at h
 ·have := (List.getElem?_eq_some_iff.1 (Option.isSome_iff_exists.1 h).choose_spec).1
  omega
 have := (List.getElem?_eq_some_iff.1 (Option.isSome_iff_exists.1 h).choose_spec).1
 omega
theorem pH {a : Int} (h : 0 ≤ a) : a.tdiv 2 = a / 2 := Int.tdiv_eq_ediv_of_nonneg h
theorem uo {a : Int} (h : 0 ≤ a) : a.tmod 2 = a % 2 := Int.tmod_eq_emod_of_nonneg h
theorem mJ {α : Type} (l : List α) (i : Nat) : (l[i]?).isSome = decide ((i : Int) < (l.length : Int)) := by
 by_cases h : i < l.length
 ·rw [List.getElem?_eq_getElem h, decide_eq_true (by omega)]; rfl
 rw [List.getElem?_eq_none (by omega), decide_eq_false (by omega)]; rfl
theorem nM (m : DMemory) (a : Int) : (a < 1 ∧ dU m a = none) ∨ (∃ k : Nat, a = 2 * (k : Int) + 1 ∧ dU m a = m.Young[k]?) ∨ (∃ k : Nat, a = 2 * (k : Int) + 2 ∧ dU m a = m.Old[k]?) := by
 by_cases h : a < 1
 ·exact .inl ⟨h, by unfold dU; rw [if_pos h]⟩
 by_cases h2 : a % 2 = 1
 ·refine .inr (.inl ⟨((a - 1) / 2).toNat, by omega, ?_⟩)
  unfold dU; rw [if_neg h, if_pos h2]
 refine .inr (.inr ⟨((a - 2) / 2).toNat, by omega, ?_⟩)
 unfold dU; rw [if_neg h, if_neg h2]
theorem xE {a : Int} (h : aK a) : -4611686018427387904 ≤ a.tdiv 2 ∧ a.tdiv 2 ≤ 4611686018427387904 := by
 unfold aK at h
 by_cases h0 : 0 ≤ a
 ·rw [pH h0]; omega
 have h1 : (-a).tdiv 2 = -(a.tdiv 2) := Int.neg_tdiv a 2
 rw [pH (by omega)] at h1
 omega
theorem vQ (N : Nat) (m : DMemory) (a : Int) (h : aK a) : Sat (gP N m a) fun r => r.2.2 = bS m a ∧ (bS m a = true → aH r.1 r.2.1 = dU m a) := by
 have hd := xE h
 unfold gP
 rw [r64 (by omega) (by omega)]
 unfold gb bS
 rcases nM m a with ⟨h1, h2⟩ | ⟨k, h1, h2⟩ | ⟨k, h1, h2⟩
 ·rw [h2]
  refine cP (fun _ => ?_) fun _ => ?_
  ·rw [r64 (by omega) (by omega), r64 (by omega) (by omega), ci (a := 0) (b := a) (by omega), cf, bs]
   exact aP ⟨rfl, fun h => by cases h⟩
  rw [ci (a := 0) (b := a) (by omega), cf, bs]
  exact aP ⟨rfl, fun h => by cases h⟩
 ·subst h1
  rw [h2, uo (by omega), pH (by omega), ej (by omega), cf, cy (by omega), ct, bs, show (2 * (k : Int) + 1) / 2 = k by omega]
  exact aP ⟨(mJ _ _).symm, fun _ => jn _ _⟩
 subst h1
 rw [h2, uo (by omega), pH (by omega), mW (by omega), ct, cy (by omega), ct, bs, show (2 * (k : Int) + 2) / 2 - 1 = k by omega]
 rw [r64 (by omega) (by omega), r64 (by omega) (by omega)]
 exact aP ⟨(mJ _ _).symm, fun _ => jn _ _⟩
theorem rx (N : Nat) (m : DMemory) (a : Int) (h : aK a) : eQ N m a = some (bS m a) := by
 obtain ⟨r, h1, h2, -⟩ := vQ N m a h
 unfold eQ
 rw [h1, bs, h2]
theorem yg (N : Nat) (c : DCell) (h : c.Slots.length ≤ 600 ∧ c.More.length ≤ 600) : eZ N c = some c := by
 unfold eZ dj
 rw [rF (by simp; omega), bs, rF (by simp; omega), bs]
 rfl
end Go.Proofs.Ytmbaennilhdieaa
namespace Go.Proofs.Ytmbaennilhdieaa
variable {A1 A2 A3 A4 : Option Addr} {c1 c2 c3 c4 n1 n2 n3 n4 : Nat}
open Go.RowKit
theorem xX (N : Nat) (k : Int) : lc N k = dF N k := by
 unfold lc dF dM
 by_cases h1 : k = 1
 ·subst h1; rfl
 by_cases h2 : k = 2
 ·subst h2; rfl
 by_cases h3 : k = 3
 ·subst h3; rfl
 by_cases h6 : k = 6
 ·subst h6; rfl
 by_cases h8 : k = 8
 ·subst h8; rfl
 by_cases h9 : k = 9
 ·subst h9; rfl
 by_cases h10 : k = 10
 ·subst h10; rfl
 rw [ej h1, ej h2, ej h3, ej h6, ej h8, ej h9, ej h10]; rfl
theorem yC (N : Nat) (c : DCell) : dL N c = cX N c := by
 unfold dL cX
 rw [xX]; rfl
theorem Ch (N : Nat) (v : DValue) : lb N v = df N v := by
 unfold lb df ii
 by_cases h5 : v.Kind = 5
 ·rw [h5]; rfl
 rw [ej h5]
 simp only [cf]
 by_cases hr : v.Kind < 0 ∨ 9 < v.Kind
 ·have h2 : v.Kind ≠ 2 := by omega
  have h3 : v.Kind ≠ 3 := by omega
  have h6 : v.Kind ≠ 6 := by omega
  have h7 : v.Kind ≠ 7 := by omega
  have h9 : v.Kind ≠ 9 := by omega
  have e1 : ((bif decide (v.Kind < 0) then (some true) else (some (decide (9 < v.Kind)))) : Option Bool) = some true := by
   rcases hr with h | h
   ·rw [cy h]; rfl
   rw [cy (a := 9) h]; cases decide (v.Kind < 0) <;> rfl
  rw [e1, bs, ct, ej h2, ej h3, ej h6, ej h7, ej h9]
  simp only [cf]
  have e2 : (((bif decide (v.N = 0) then (some (decide (0 ≤ v.Kind))) else (some false)).bind fun b14 => (bif b14 then (some (decide (v.Kind ≤ 9))) else (some false)).bind fun b15 => some b15) : Option Bool) = some false := by
   cases decide (v.N = 0)
   ·rfl
   rcases hr with h | h
   ·rw [zm (a := 0) (b := v.Kind) (by omega)]; rfl
   rw [zm (a := v.Kind) (b := 9) (by omega)]; cases decide (0 ≤ v.Kind) <;> rfl
  rw [e2]
  cases s : (v.S.toList == (⟨#[]⟩ : ByteArray).toList) <;> rfl
 have e1 : ((bif decide (v.Kind < 0) then (some true) else (some (decide (9 < v.Kind)))) : Option Bool) = some false := by
  rw [ci (a := v.Kind) (b := 0) (by omega), ci (a := 9) (b := v.Kind) (by omega)]; rfl
 rw [e1, bs, cf]
 cases hs : (v.S.toList == (⟨#[]⟩ : ByteArray).toList)
 ·rfl
 simp only [nt, cf]
 by_cases h2 : v.Kind = 2
 ·rw [h2]; rfl
 rw [ej h2]; simp only [cf]
 by_cases h3 : v.Kind = 3
 ·rw [h3]; rfl
 rw [ej h3]; simp only [cf]
 by_cases h6 : v.Kind = 6
 ·rw [h6]; rfl
 rw [ej h6]; simp only [cf]
 by_cases h7 : v.Kind = 7
 ·rw [h7]; rfl
 rw [ej h7]; simp only [cf]
 by_cases h9 : v.Kind = 9
 ·rw [h9]; rfl
 rw [ej h9, zl (a := 0) (by omega), zl (a := v.Kind) (by omega)]
 cases decide (v.N = 0) <;> rfl
theorem uJ (N : Nat) (v : DValue) : ∃ b, df N v = some b := by
 unfold df
 cases decide (v.Kind < 0) <;> cases decide (9 < v.Kind) <;> cases decide (v.Kind = 5) <;> cases decide (v.N = 0) <;> cases (v.S.toList == (⟨#[]⟩ : ByteArray).toList) <;> cases decide (v.Kind = 2) <;> cases decide (v.Kind = 3) <;> cases decide ((-9007199254740992) ≤ v.N) <;> cases decide (v.Kind = 6) <;> cases decide (v.Kind = 7) <;> cases decide (v.Kind = 9) <;> exact ⟨_, rfl⟩
theorem oT (N : Nat) (k : Nat) (hk : k = 2 ∨ k = 4) (l : List DValue) (hl : l.length ≤ 1000) : ∀ (m i : Nat), l.length < m + i → i ≤ l.length → (l.length - i) % k = 0 → ∃ b, r15_entries_l5 N (k : Int) l m (i : Int) = some b ∧
  slices_Chunk_l4 N (cm (fun x st => bi N (k : Int) x st)) l (k : Int) m (i : Int) (none, ()) = some (bif b then (none, ()) else (some .ret, ()))
 | 0, i, h, h2, _ => by omega
 | m + 1, i, h, h2, h3 => by
  by_cases hi : i < l.length
  ·have hik : i + k ≤ l.length := by
    rcases hk with rfl | rfl <;> omega
   have hmin : (min (k : Int) (((l.drop (i : Int).toNat).take (l.length - (i : Int).toNat)).length : Int)) = k := by
    rw [List.length_take, List.length_drop, Int.toNat_natCast]; omega
   have hto : ((i : Int) + (k : Int)).toNat = i + k := by omega
   have hx : ∀ j, j < k → aH ((l.drop i).take k) (j : Int) = l[i + j]? := fun j hj => by
    rw [jn, List.getElem?_take, if_pos hj, List.getElem?_drop]
   have hk0 := hx 0 (by omega)
   have hk1 := hx 1 (by omega)
   rw [List.getElem?_eq_getElem (by omega)] at hk0 hk1
   have hl0 : aH l (i : Int) = some l[i] := aY hi
   have hl1 : aH l ((i : Int) + 1) = some (l[i + 1]'(by omega)) := by
    have := aY (xs := l) (i := i + 1) (by omega)
    simpa using this
   obtain ⟨b, hb1, hb2⟩ := oT N k hk l hl m (i + k) (by omega) hik (by rcases hk with rfl | rfl <;> omega)
   simp only [Int.natCast_add] at hb1 hb2
   have fin : ∀ b', (bif b' then some false else bD (aK ((i : Int) + (k : Int))) (r15_entries_l5 N (k : Int) l m ((i : Int) + (k : Int)))) = some (bif b' then false else b) := fun b' => by
    cases b'
    ·rw [cf, r64 (by omega) (by omega), hb1]; rfl
    rfl
   have fin2 : ∀ b' : Bool, ((bif b' then (some (some Exit.ret, ())) else (some (none, ())) : Option (Option Exit × Unit)).map fun r => (r.1.isNone, r)) = some (!b', (bif b' then some Exit.ret else none, ())) := fun b' => by cases b' <;> rfl
   have goal : ∀ b', ((some (!b', ((bif b' then some Exit.ret else none : Option Exit), ())) : Option (Bool × (Option Exit × Unit))).bind fun y14 => bif !y14.1 then (some y14.2) else (bD (aK ((i : Int) + (k : Int))) ((slices_Chunk_l4 N (cm (fun x st => bi N (k : Int) x st)) l (k : Int) m) ((i : Int) + (k : Int)) y14.2))) = some (bif (bif b' then false else b) then (none, ()) else (some .ret, ())) := fun b' => by
    cases b'
    ·rw [bs]
     simp only [nf, nt, cf]
     rw [r64 (by omega) (by omega)]
     exact hb2
    rfl
   have lift : ∀ (x : List DValue) (b' : Bool), bi N (k : Int) x () = (bif b' then (some (some Exit.ret, ())) else (some (none, ()))) → cm (fun x st => bi N (k : Int) x st) x (none, ()) = some (!b', (bif b' then some Exit.ret else none, ())) := fun x b' hb => by
    unfold cm
    simp only [hb]
    exact fin2 b'
   have key : ∃ b', ((aH l (i : Int)).bind fun x8 => (bif !decide (x8.Kind = 7) then (some true) else (bD (aK ((i : Int) + 1)) ((aH l ((i : Int) + 1)).bind fun x11 => some (decide (x11.Kind = 8))))).bind fun b9 => bif b9 then (some false) else ((bif decide ((k : Int) = 4) then (bD (aK ((i : Int) + 2)) ((aH l ((i : Int) + 2)).bind fun x15 => (bV N x15 7).bind fun y16 => (bif !y16 then (some true) else (bD (aK ((i : Int) + 3)) ((aH l ((i : Int) + 3)).bind fun x19 => (cD N x19 0 9007199254740992).bind fun y20 => some (!y20)))).bind fun b17 => some b17)) else (some false)).bind fun b13 => bif b13 then (some false) else (bD (aK ((i : Int) + (k : Int))) ((r15_entries_l5 N (k : Int) l m) ((i : Int) + (k : Int)))))) = some (bif b' then false else b) ∧ bi N (k : Int) ((l.drop i).take k) () = (bif b' then (some (some Exit.ret, ())) else (some (none, ()))) := by
    unfold bi
    simp only [Int.cast_ofNat_Int, Int.natCast_zero, Int.natCast_one] at hk0 hk1
    rw [hl0, bs, r64 (a := (i : Int) + 1) (by omega) (by omega), hl1, bs]
    have hk0' : aH ((l.drop i).take k) 0 = some l[i] := hk0
    have hk1' : aH ((l.drop i).take k) 1 = some (l[i + 1]'(by omega)) := hk1
    simp only [hk0', bs, hk1']
    cases h7 : (!decide (l[i].Kind = 7))
    ·simp only [cf, bs]
     cases h8 : decide ((l[i + 1]'(by omega)).Kind = 8)
     ·simp only [cf]
      rcases hk with rfl | rfl
      ·simp only [show decide (((2 : Nat) : Int) = 4) = false from rfl, cf, bs]
       have f := fin false
       rw [cf] at f
       refine ⟨false, ?_, rfl⟩
       exact f
      have hk2 := hx 2 (by omega)
      have hk3 := hx 3 (by omega)
      rw [List.getElem?_eq_getElem (by omega)] at hk2 hk3
      have hk2' : aH ((l.drop i).take 4) 2 = some (l[i + 2]'(by omega)) := hk2
      have hk3' : aH ((l.drop i).take 4) 3 = some (l[i + 3]'(by omega)) := hk3
      have hl2 : aH l ((i : Int) + 2) = some (l[i + 2]'(by omega)) := by
       have := aY (xs := l) (i := i + 2) (by omega)
       simpa using this
      have hl3 : aH l ((i : Int) + 3) = some (l[i + 3]'(by omega)) := by
       have := aY (xs := l) (i := i + 3) (by omega)
       simpa using this
      simp only [show decide (((4 : Nat) : Int) = 4) = true from rfl, ct]
      rw [r64 (a := (i : Int) + 2) (by omega) (by omega), hl2, bs, hk2', bs, r64 (a := (i : Int) + 3) (by omega) (by omega), hl3, bs, hk3']
      have en : ∀ v, cZ N v 7 = bV N v 7 := fun v => rfl
      have em : ∀ v, da N v 0 9007199254740992 = cD N v 0 9007199254740992 := fun v => rfl
      have hn : ∃ b1, bV N (l[i + 2]'(by omega)) 7 = some b1 := by unfold bV; cases decide ((l[i + 2]'(by omega)).Kind = 0) <;> exact ⟨_, rfl⟩
      have hm : ∃ b1, cD N (l[i + 3]'(by omega)) 0 9007199254740992 = some b1 := by unfold cD; cases decide ((l[i + 3]'(by omega)).Kind = 3) <;> cases decide (0 ≤ (l[i + 3]'(by omega)).N) <;> exact ⟨_, rfl⟩
      obtain ⟨b1, hn⟩ := hn
      obtain ⟨b2, hm⟩ := hm
      simp only [bs, en, em, hn, hm]
      cases b1
      ·simp only [nf, ct, bs]
       exact ⟨true, rfl, rfl⟩
      simp only [nt, cf, bs]
      exact ⟨!b2, fin (!b2), by cases b2 <;> rfl⟩
     exact ⟨true, rfl, rfl⟩
    exact ⟨true, rfl, rfl⟩
   obtain ⟨b', e1, e2⟩ := key
   refine ⟨bif b' then false else b, ?_, ?_⟩
   ·rw [r15_entries_l5.eq_2, cy (by omega), ct]
    exact e1
   rw [slices_Chunk_l4.eq_2, cy (by omega), ct, hmin, iC (show (0 : Int) ≤ (i : Int) ∧ (i : Int).toNat ≤ l.length ∧ l.length ≤ l.length from ⟨by omega, by omega, Nat.le_refl _⟩), r64 (a := (i : Int) + (k : Int)) (by omega) (by omega), r64 (a := (i : Int) + (k : Int)) (by omega) (by omega)]
   rw [iC (show (0 : Int) ≤ (i : Int) ∧ (0 : Int) ≤ (i : Int) + (k : Int) ∧ (i : Int).toNat ≤ ((i : Int) + (k : Int)).toNat ∧ ((i : Int) + (k : Int)).toNat ≤ l.length from ⟨by omega, by omega, by omega, by omega⟩), hto, Int.toNat_natCast, show i + k - i = k by omega, lift _ b' e2]
   exact goal b'
  rw [r15_entries_l5.eq_2, slices_Chunk_l4.eq_2, ci (by omega), cf, cf]
  exact ⟨true, rfl, rfl⟩
theorem jr (N : Nat) (hN : 2000 < N) (k : Nat) (hk : k = 2 ∨ k = 4) (l : List DValue) (hl : l.length ≤ 1000) : ∃ b, bZ N l (k : Int) = some b ∧ bG N l (k : Int) = some b ∧ (b = true → l.length % k = 0) := by
 unfold bZ bG
 have hk0 : (k : Int) ≠ 0 := by rcases hk with rfl | rfl <;> decide
 rw [iC hk0, iC hk0]
 have ht : (l.length : Int).tmod (k : Int) = ((l.length % k : Nat) : Int) := by
  rw [Int.tmod_eq_emod_of_nonneg (by omega)]; rfl
 rw [ht]
 by_cases h : l.length % k = 0
 ·rw [mW (by omega)]
  obtain ⟨b, h1, h2⟩ := oT N k hk l hl N 0 (by omega) (by omega) (by simpa using h)
  have e : eh N l (k : Int) = some () := by
   unfold eh; rw [ci (by rcases hk with rfl | rfl <;> omega), cf]
  unfold i5
  simp only [nt, cf, e, bs]
  have h1' : r15_entries_l5 N (k : Int) l N 0 = some b := h1
  have h2' : slices_Chunk_l4 N (cm (fun x st => bi N (k : Int) x st)) l (k : Int) N 0 (none, ()) = some (bif b then (none, ()) else (some .ret, ())) := h2
  rw [h1', h2', bs]
  exact ⟨b, by cases b <;> rfl, rfl, fun _ => h⟩
 rw [ej (by omega)]
 exact ⟨false, rfl, rfl, fun h => by cases h⟩
end Go.Proofs.Ytmbaennilhdieaa
namespace Go.Proofs.Ytmbaennilhdieaa
variable {A1 A2 A3 A4 : Option Addr} {c1 c2 c3 c4 n1 n2 n3 n4 : Nat}
open Go.RowKit
theorem AH (N : Nat) (hN : 2000 < N) (c : DCell) (hc : c.More.length ≤ 1000) : d8 N c.Kind c.More = dR N c := by
 obtain ⟨b2, h2, h2', -⟩ := jr N hN 2 (.inl rfl) c.More hc
 obtain ⟨b4, h4, h4', -⟩ := jr N hN 4 (.inr rfl) ((c.More.drop ((1 : Int).toNat)).take (c.More.length - (1 : Int).toNat)) (by rw [List.length_take, List.length_drop]; omega)
 have e2 : bZ N c.More 2 = bG N c.More 2 := h2.trans h2'.symm
 have e4 : bZ N ((c.More.drop ((1 : Int).toNat)).take (c.More.length - (1 : Int).toNat)) 4 = bG N ((c.More.drop ((1 : Int).toNat)).take (c.More.length - (1 : Int).toNat)) 4 := h4.trans h4'.symm
 unfold d8 dR eL dE
 rw [e2, e4]
 rfl
theorem uK (N : Nat) (c : DCell) (b : Bool) (v : DValue) : ∃ y, df N v = some y ∧ cm (fun x st => cM N c x st) (b, v) (none, ()) = some (y, (bif y then none else some Exit.ret, ())) := by
 obtain ⟨y, hy⟩ := uJ N v
 refine ⟨y, hy, ?_⟩
 unfold cm cM
 simp only [Ch, hy, bs]
 cases y <;> rfl
theorem qO (N : Nat) (c : DCell) (hc : c.More.length ≤ 1000) : ∀ (m i : Nat), c.More.length < m + i → i ≤ c.More.length → ∃ b, r15_Right_l20 N c m (i : Int) = (bif b then bH N c else some false) ∧
  cell_all_c1_l15 N (cm (fun x st => cM N c x st)) c m (i : Int) (none, ()) = some (bif b then none else some Exit.ret, ())
 | 0, i, h, h2 => by omega
 | m + 1, i, h, h2 => by
  rw [r15_Right_l20.eq_2, cell_all_c1_l15.eq_2]
  by_cases hi : i < c.More.length
  ·rw [cy (by omega), ct, ct, aY hi, bs, bs]
   have hs : (bif !decide (c.Kind = 8) then ((bif !decide (c.Kind = 10) then (some true) else (some (decide ((i : Int).tmod 2 = 0)))).bind fun b22 => some b22) else (some false)) = some (eG c.Kind i) := by
    unfold eG; cases decide (c.Kind = 8) <;> cases decide (c.Kind = 10) <;> rfl
   obtain ⟨y, h3, h4⟩ := uK N c (eG c.Kind i) c.More[i]
   rw [hs, bs, h3, h4, bs, bs]
   cases y
   ·simp only [nf, nt, ct, cf]
    exact ⟨false, cf.symm, by rw [cf]⟩
   obtain ⟨b, h5, h6⟩ := qO N c hc m (i + 1) (by omega) hi
   simp only [Int.natCast_add, Int.cast_ofNat_Int] at h5 h6
   simp only [nt, cf, ct]
   rw [r64 (by omega) (by omega), r64 (by omega) (by omega)]
   exact ⟨b, h5, h6⟩
  rw [ci (by omega), cf, cf]
  exact ⟨true, ct.symm, by rw [ct]⟩
theorem jD (N : Nat) (hN : 2000 < N) (c : DCell) (hS : c.Slots.length ≤ 1000) (hc : c.More.length ≤ 1000) : ∀ (m i : Nat), c.Slots.length < m + i → i ≤ c.Slots.length → ∃ b, r15_Right_l12 N c m (i : Int) = (bif b then bH N c else some false) ∧
  cell_all_c1_l6 N (cm (fun x st => cM N c x st)) c m (i : Int) (none, ()) = some (bif b then none else some Exit.ret, ())
 | 0, i, h, h2 => by omega
 | m + 1, i, h, h2 => by
  rw [r15_Right_l12.eq_2, cell_all_c1_l6.eq_2]
  by_cases hi : i < c.Slots.length
  ·rw [cy (by omega), ct, ct, aY hi, bs, bs]
   obtain ⟨y, h3, h4⟩ := uK N c true c.Slots[i]
   rw [h3, h4, bs, bs]
   cases y
   ·simp only [nf, nt, ct, cf]
    exact ⟨false, cf.symm, by rw [cf]⟩
   obtain ⟨b, h5, h6⟩ := jD N hN c hS hc m (i + 1) (by omega) hi
   simp only [Int.natCast_add, Int.cast_ofNat_Int] at h5 h6
   simp only [nt, cf, ct]
   rw [r64 (by omega) (by omega), r64 (by omega) (by omega)]
   exact ⟨b, h5, h6⟩
  rw [ci (by omega), cf, cf]
  exact qO N c hc N 0 (by omega) (by omega)
theorem qP (N : Nat) (hN : 2000 < N) (c : DCell) (hS : c.Slots.length ≤ 1000) (hc : c.More.length ≤ 1000) : el N c = bI N c := by
 unfold el bI fG
 have hAge : ((bif !decide (c.Age = 0) then (some (!decide (c.Age = 1))) else (some false)).bind fun b10 => some b10) = (some (decide (c.Age < 0) || decide (1 < c.Age)) : Option Bool) := by
  by_cases h0 : c.Age = 0
  ·rw [h0]; rfl
  by_cases h1 : c.Age = 1
  ·rw [h1]; rfl
  rw [ej h0, ej h1]
  by_cases h2 : c.Age < 0
  ·rw [cy h2]; rfl
  rw [cy (a := 1) (b := c.Age) (by omega), ci (a := c.Age) (by omega)]; rfl
 obtain ⟨b, h1, h2⟩ := jD N hN c hS hc N 0 (by omega) (by omega)
 have h1' : r15_Right_l12 N c N 0 = (bif b then bH N c else some false) := h1
 have h2' : cell_all_c1_l6 N (cm (fun x st => cM N c x st)) c N 0 (none, ()) = some (bif b then none else some Exit.ret, ()) := h2
 have e : ju N c = some () := rfl
 rw [hAge, h1', h2', e]
 have tail : ((some ()).bind fun (y12 : Unit) => (some ((bif b then none else some Exit.ret : Option Exit), ())).bind fun y15 => oW y15.1 ((dL N c).bind fun y19 => (bif y19 then ((d8 N c.Kind c.More).bind fun y21 => some y21) else (some false)).bind fun b20 => some b20) (some false) (fun _ => none)) = (bif b then bH N c else some false) := by
  cases b
  ·rfl
  rw [yC, AH N hN c hc]; rfl
 rw [tail]
 cases decide (c.Kind < 1) <;> cases decide (11 < c.Kind) <;> cases decide (c.Shape < 0) <;> cases decide (c.Flags < 0) <;> cases decide (63 < c.Flags) <;> cases decide (c.Age < 0) <;> cases decide (1 < c.Age) <;> rfl
theorem yW {m : Option Bool} {x : Bool} : m = some x → (m.bind fun b => some b) = some x := fun h => by rw [h]; rfl
theorem vL (N : Nat) (hN : 2000 < N) (c : DCell) (hS : c.Slots.length ≤ 1000) (hc : c.More.length ≤ 1000) (h8 : c.Kind = 8) : ∃ b, bI N c = some b ∧ (b = true → c.More.length % 2 = 0) := by
 obtain ⟨b1, g1, -⟩ := jD N hN c hS hc N 0 (by omega) (by omega)
 have g1' : r15_Right_l12 N c N 0 = (bif b1 then bH N c else some false) := g1
 obtain ⟨b2, -, h2, h3⟩ := jr N hN 2 (.inl rfl) c.More hc
 have hm : dR N c = some b2 := by
  unfold dR dE
  rw [h8, ci (by omega)]
  show ((bG N c.More 2).bind fun y37 => some y37) = _
  exact yW h2
 have hs : ∃ b3, cX N c = some b3 := by
  unfold cX
  rw [h8]
  have : dF N 8 = some true := rfl
  rw [this, bs, ct, bs, ct]
  by_cases hl : 1 ≤ (c.Slots.length : Int)
  ·rw [zl hl, ct, bs, AO (xs := c.Slots) (i := 0) (by omega) (by omega), bs]
   cases decide ((c.Slots.length : Int) ≤ 1025)
   ·exact ⟨_, rfl⟩
   cases decide (c.Slots[(0 : Int).toNat].Kind = 1) <;> exact ⟨_, rfl⟩
  rw [zm (by omega)]; exact ⟨_, rfl⟩
 obtain ⟨b3, hs⟩ := hs
 have hj : bH N c = some (b3 && b2) := by
  unfold bH
  rw [hs, hm]
  cases b3 <;> rfl
 unfold bI
 rw [g1', hj]
 have fin : ∃ b, ((bif b1 then some (b3 && b2) else some false) : Option Bool) = some b ∧ (b = true → c.More.length % 2 = 0) := by
  cases b1
  ·exact ⟨false, rfl, fun h => by cases h⟩
  exact ⟨b3 && b2, rfl, fun h => h3 (by cases b3 <;> cases b2 <;> first | rfl | cases h)⟩
 obtain ⟨b, e1, e2⟩ := fin
 rw [e1]
 have ff : ∃ b', (some false : Option Bool) = some b' ∧ (b' = true → c.More.length % 2 = 0) := ⟨false, rfl, fun h => by cases h⟩
 cases decide (c.Kind < 1) <;> cases decide (11 < c.Kind) <;> cases decide (c.Shape < 0) <;> cases decide (c.Flags < 0) <;> cases decide (63 < c.Flags) <;> cases decide (c.Age < 0) <;> cases decide (1 < c.Age) <;> first | exact ff | exact ⟨b, rfl, e2⟩
def kS (N : Nat) (c : DCell) : Bool := decide (c.Kind = 8) && (bI N c).getD false
theorem zq (N : Nat) (hN : 2000 < N) (c : DCell) (hS : c.Slots.length ≤ 1000) (hc : c.More.length ≤ 1000) : uy N c = some (kS N c) ∧ kf N c = some (kS N c) ∧ (kS N c = true → c.More.length % 2 = 0) := by
 unfold uy kf kS
 rw [qP N hN c hS hc]
 by_cases h8 : c.Kind = 8
 ·obtain ⟨b, h1, h2⟩ := vL N hN c hS hc h8
  rw [h1, h8]
  exact ⟨rfl, rfl, h2⟩
 rw [ej h8]
 exact ⟨rfl, rfl, fun h => by cases h⟩
end Go.Proofs.Ytmbaennilhdieaa
namespace Go.Proofs.Ytmbaennilhdieaa
variable {A1 A2 A3 A4 : Option Addr} {c1 c2 c3 c4 n1 n2 n3 n4 : Nat}
open Go.RowKit
abbrev ub {ρ : Type} (m : Option ρ) : Prop := Sat m fun _ => True
theorem aT {ρ : Type} (x : ρ) : ub (some x) := aP trivial
theorem eF {ρ : Type} {b : Bool} {x y : Option ρ} (hx : b = true → ub x) (hy : b = false → ub y) : ub (bif b then x else y) := i7 hx hy
theorem oB (N : Nat) (v : DValue) (a b : Int) : ub (cD N v a b) := by
 unfold cD
 refine Sat.bind (P := fun _ => True) (eF (fun _ => aT _) fun _ => aT _) fun x _ => Sat.bind (P := fun _ => True) (eF (fun _ => aT _) fun _ => aT _) fun y _ => aT _
theorem lU (N : Nat) (v : DValue) (a : Int) : ub (bV N v a) := by
 unfold bV
 exact Sat.bind (P := fun _ => True) (eF (fun _ => aT _) fun _ => aT _) fun x _ => aT _
theorem mA {c : Bool} {m : Option Bool} (h : c = true → ub m) : ub (bif c then m else some false) := eF h fun _ => aT _
theorem lC {l : List DValue} {i : Nat} {f : DValue → Option Bool} (hi : i < l.length) (h : ∀ v, ub (f v)) : ub ((aH l (i : Int)).bind f) := by
 rw [aY hi, bs]; exact h _
theorem co {m : Option Bool} {f : Bool → Option Bool} (h : ub m) (k : ∀ b, ub (f b)) : ub (m.bind f) := Sat.bind h fun b _ => k b
theorem iT {m : Option Bool} {p : Prop} {f : Bool → Option Bool} (h : Sat m fun b => b = true → p) (k : ∀ b, (b = true → p) → ub (f b)) : ub (m.bind f) := Sat.bind h k
theorem xJ (N : Nat) (c : DCell) : ub (cX N c) := by
 unfold cX
 have hp : ub (dF N c.Kind) := by
  unfold dF
  iterate 6 refine co (eF (fun _ => aT _) fun _ => aT _) fun _ => ?_
  exact aT _
 refine co hp fun y => co (eF (fun _ => aT _) fun _ => co (eF (fun _ => aT _) fun _ => aT _) fun _ => aT _) fun b => ?_
 refine eF (fun _ => ?_) fun _ => ?_
 ·refine iT (p := 0 < c.Slots.length) (cP (fun h => aP fun _ => by omega) fun _ => aP fun h => by cases h) fun b hb => co (mA fun h => ?_) fun _ => aT _
  have h0 := hb h
  refine lC (i := 0) h0 fun v => co (eF (fun _ => aT _) fun _ => lC (i := 0) h0 fun _ => aT _) fun _ => aT _
 refine eF (fun _ => aT _) fun _ => co (eF (fun _ => aT _) fun _ => aT _) fun _ => eF (fun _ => aT _) fun _ => i7 (fun _ => ?_) fun _ => aT _
 refine iT (p := 1 < c.Slots.length) (cP (fun h => ?_) fun _ => aP fun h => by cases h) fun b hb => co (mA fun h => ?_) fun _ => aT _
 ·rw [show ((0 : Int)) = ((0 : Nat) : Int) from rfl, aY (by omega), bs]
  obtain ⟨x, hx, -⟩ := lU N c.Slots[0] 7
  rw [hx, bs]; exact aP fun _ => by omega
 refine lC (i := 1) (hb h) fun v => co (lU N v 7) fun _ => aT _
theorem wE {l : List DValue} {i : Nat} {m : DValue → Option Bool} (hi : i < l.length) (h : ∀ v, ub (m v)) {p : Prop} (hp : p) : Sat ((aH l (i : Int)).bind fun x => (m x).bind fun y => some y) fun b => b = true → p := by
 rw [aY hi, bs]
 obtain ⟨x, hx, -⟩ := h l[i]
 rw [hx, bs]; exact aP fun _ => hp
def nO (c : DCell) : Prop := (c.Kind = 8 → c.More.length % 2 = 0) ∧ (c.Kind = 10 → 1 ≤ c.More.length ∧ (c.More.length - 1) % 4 = 0)
theorem ze (N : Nat) (hN : 2000 < N) (c : DCell) (hc : c.More.length ≤ 1000) : Sat (dR N c) fun b => b = true → nO c := by
 have j6 : ∀ p, (p = true → c.Kind = 1 ∨ c.Kind = 5) → Sat (dE N c p) fun b => b = true → nO c := by
  intro p hp
  have other : ∀ {m : Option Bool}, c.Kind ≠ 8 → c.Kind ≠ 10 → ub m → Sat m fun b => b = true → nO c := fun h8 h10 h => h.mono fun _ _ _ => ⟨fun e => absurd e h8, fun e => absurd e h10⟩
  unfold dE
  refine i7 (fun h => other (by rcases hp h with e | e <;> omega) (by rcases hp h with e | e <;> omega) (aT _)) fun _ => ?_
  refine cP (fun hk => other (by omega) (by omega) ?_) fun _ => ?_
  ·refine iT (p := 1 < c.More.length) (cP (fun h => wE (i := 0) (by omega) (fun v => oB N v _ _) (by omega)) fun _ => aP fun h => by cases h) fun b hb => co (mA fun h => lC (i := 1) (hb h) fun v => co (lU N v 9) fun _ => aT _) fun _ => aT _
  refine cP (fun hk => other (by omega) (by omega) ?_) fun _ => ?_
  ·refine iT (p := 0 < c.More.length) (cP (fun h => aP fun _ => by omega) fun _ => aP fun h => by cases h) fun b hb => co (mA fun h => lC (i := 0) (hb h) fun v => co (lU N v 9) fun _ => aT _) fun _ => aT _
  refine cP (fun hk => other (by omega) (by omega) ?_) fun _ => ?_
  ·refine iT (p := 1 < c.More.length) (cP (fun h => wE (i := 0) (by omega) (fun v => oB N v _ _) (by omega)) fun _ => aP fun h => by cases h) fun b hb => co (mA fun h => lC (i := 1) (hb h) fun v => co (lU N v 9) fun _ => aT _) fun _ => aT _
  refine cP (fun hk => other (by omega) (by omega) ?_) fun _ => ?_
  ·refine iT (p := 3 < c.More.length) (cP (fun h => wE (i := 2) (by omega) (fun v => oB N v _ _) (by omega)) fun _ => aP fun h => by cases h) fun b hb => co (mA fun h => lC (i := 3) (hb h) fun v => co (oB N v _ _) fun _ => aT _) fun _ => aT _
  refine cP (fun hk => ?_) fun hk8 => ?_
  ·obtain ⟨b, -, h2, h3⟩ := jr N hN 2 (.inl rfl) c.More hc
   have h2' : bG N c.More 2 = some b := h2
   rw [h2', bs]
   exact aP fun hb => ⟨fun _ => h3 hb, fun e => absurd e (by omega)⟩
  refine cP (fun hk => ?_) fun hk10 => ?_
  ·refine Sat.bind (P := fun b => b = true → 1 ≤ c.More.length) (cP (fun h => ?_) fun _ => aP fun h => by cases h) fun b hb => ?_
   ·rw [show ((0 : Int)) = ((0 : Nat) : Int) from rfl, aY (by omega), bs]; exact aP fun _ => by omega
   refine Sat.bind (P := fun b => b = true → nO c) (i7 (fun h => ?_) fun _ => aP fun h => by cases h) fun b' hb' => aP hb'
   have h1 := hb h
   rw [qo ⟨by omega, by show (1 : Int).toNat ≤ _; exact h1, Nat.le_refl _⟩]
   have hl : ((c.More.drop ((1 : Int).toNat)).take (c.More.length - (1 : Int).toNat)).length = c.More.length - 1 := by
    rw [List.length_take, List.length_drop]; show min (c.More.length - 1) (c.More.length - 1) = _; omega
   obtain ⟨b2, -, h2, h3⟩ := jr N hN 4 (.inr rfl) ((c.More.drop ((1 : Int).toNat)).take (c.More.length - (1 : Int).toNat)) (by rw [hl]; omega)
   have h2' : bG N ((c.More.drop ((1 : Int).toNat)).take (c.More.length - (1 : Int).toNat)) 4 = some b2 := h2
   rw [h2', bs]
   exact aP fun hb2 => ⟨fun e => absurd e (by omega), fun _ => ⟨h1, by have := h3 hb2; rw [hl] at this; exact this⟩⟩
  refine cP (fun hk => other (by omega) (by omega) ?_) fun _ => other hk8 hk10 (aT _)
  refine co ?_ fun _ => aT _
  exact eF (fun h => lC (i := 0) (by have := of_decide_eq_true h; omega) fun v => co (oB N v _ _) fun _ => aT _) fun _ => aT _
 unfold dR
 refine cP (fun _ => aP fun h => by cases h) fun _ => cP (fun hk => aP fun _ => ⟨fun e => absurd e (by omega), fun e => absurd e (by omega)⟩) fun _ => cP (fun hk => j6 _ fun _ => .inl hk) fun _ => j6 _ fun h => .inr (of_decide_eq_true h)
theorem pc (N : Nat) (hN : 2000 < N) (c : DCell) (hS : c.Slots.length ≤ 1000) (hc : c.More.length ≤ 1000) : Sat (bI N c) fun b => b = true → nO c := by
 obtain ⟨b1, g1, -⟩ := jD N hN c hS hc N 0 (by omega) (by omega)
 have g1' : r15_Right_l12 N c N 0 = (bif b1 then bH N c else some false) := g1
 have hj : Sat (bH N c) fun b => b = true → nO c := by
  unfold bH
  refine Sat.bind (xJ N c) fun y _ => ?_
  refine Sat.bind (P := fun b => b = true → nO c) (i7 (fun _ => Sat.bind (ze N hN c hc) fun _ h => aP h) fun _ => aP fun h => by cases h) fun _ h => aP h
 unfold bI
 rw [g1']
 iterate 6 refine Sat.bind (P := fun _ => True) (eF (fun _ => aT _) fun _ => aT _) fun _ _ => ?_
 refine i7 (fun _ => aP fun h => by cases h) fun _ => i7 (fun _ => hj) fun _ => aP fun h => by cases h
end Go.Proofs.Ytmbaennilhdieaa
namespace Go.Proofs.Ytmbaennilhdieaa
variable {A1 A2 A3 A4 : Option Addr} {c1 c2 c3 c4 n1 n2 n3 n4 : Nat}
open Go.RowKit
theorem mI {α ρ : Type} (L : Nat → Int → Option ρ) (l : List α) (p : α → Bool) (bad k : Option ρ)
  (step : ∀ m (i : Nat) (h : i < l.length), L (m + 1) (i : Int) = bif p l[i] then L m ((i : Int) + 1) else bad)
  (fin : ∀ m, L (m + 1) (l.length : Int) = k) (N : Nat) (hN : l.length < N) : L N 0 = bif l.all p then k else bad := by
 have key : ∀ m i : Nat, l.length < m + i → i ≤ l.length → L m (i : Int) = bif (l.drop i).all p then k else bad := by
  intro m
  induction m with
  | zero => intro i h1 h2; omega
  | succ m ih =>
   intro i h1 h2
   by_cases hi : i < l.length
   ·rw [step m i hi, List.drop_eq_getElem_cons hi, List.all_cons]
    have h3 := ih (i + 1) (by omega) hi
    rw [show (((i + 1 : Nat)) : Int) = (i : Int) + 1 by omega] at h3
    rw [h3]
    cases p l[i] <;> rfl
   have e : i = l.length := by omega
   subst e
   rw [fin, List.drop_length]; rfl
 have := key N 0 (by omega) (by omega)
 simpa using this
theorem oD {α : Type} (L : Nat → Int → Option Bool) (l : List α) (p : α → Bool)
  (step : ∀ m (i : Nat) (h : i < l.length), L (m + 1) (i : Int) = bif p l[i] then L m ((i : Int) + 1) else some false)
  (fin : ∀ m, L (m + 1) (l.length : Int) = some true) (N : Nat) (hN : l.length < N) : L N 0 = some (l.all p) := by
 rw [mI L l p _ _ step fin N hN]; cases l.all p <;> rfl
theorem zh {α ρ : Type} [DecidableEq α] (L : Nat → Int → Option ρ) (a b : List α) (bad k : Option ρ) (hl : a.length = b.length)
  (step : ∀ m (i : Nat) (h : i < a.length) (h' : i < b.length), L (m + 1) (i : Int) = bif decide (a[i] = b[i]) then L m ((i : Int) + 1) else bad)
  (fin : ∀ m, L (m + 1) (a.length : Int) = k) (N : Nat) (hN : a.length < N) : L N 0 = bif decide (a = b) then k else bad := by
 have key : ∀ m i : Nat, a.length < m + i → i ≤ a.length → L m (i : Int) = bif decide (a.drop i = b.drop i) then k else bad := by
  intro m
  induction m with
  | zero => intro i h1 h2; omega
  | succ m ih =>
   intro i h1 h2
   by_cases hi : i < a.length
   ·have hi' : i < b.length := by omega
    rw [step m i hi hi', List.drop_eq_getElem_cons hi, List.drop_eq_getElem_cons hi']
    have h3 := ih (i + 1) (by omega) hi
    rw [show (((i + 1 : Nat)) : Int) = (i : Int) + 1 by omega] at h3
    rw [h3]
    by_cases e : a[i] = b[i]
    ·rw [decide_eq_true e, cond_true, e]
     by_cases e2 : a.drop (i + 1) = b.drop (i + 1)
     ·rw [decide_eq_true e2, e2, decide_eq_true rfl]
     rw [decide_eq_false e2, decide_eq_false (fun h => e2 (List.cons.inj h).2)]
    rw [decide_eq_false e, decide_eq_false (fun h => e (List.cons.inj h).1)]; rfl
   have e : i = a.length := by omega
   subst e
   rw [fin, List.drop_length, hl, List.drop_length, decide_eq_true rfl]; rfl
 have := key N 0 (by omega) (by omega)
 simpa using this
theorem xh {α : Type} [DecidableEq α] (L : Nat → Int → Option Bool) (a b : List α)
  (step : a.length = b.length → ∀ m (i : Nat) (h : i < a.length) (h' : i < b.length), L (m + 1) (i : Int) = bif decide (a[i] = b[i]) then L m ((i : Int) + 1) else some false)
  (fin : ∀ m, L (m + 1) (a.length : Int) = some true) (N : Nat) (hN : a.length < N) : (bif !decide ((a.length : Int) = (b.length : Int)) then some false else L N 0) = some (decide (a = b)) := by
 by_cases hl : a.length = b.length
 ·rw [decide_eq_true (p := ((a.length : Int) = (b.length : Int))) (by omega), nt, cf, zh L a b (some false) (some true) hl (step hl) fin N hN]
  cases decide (a = b) <;> rfl
 rw [decide_eq_false (p := ((a.length : Int) = (b.length : Int))) (by omega), nf, ct, decide_eq_false (fun e => hl (by rw [e]))]
theorem all_map {α β : Type} (f : α → β) (p : β → Bool) (l : List α) : (l.map f).all p = l.all fun x => p (f x) := by rw [List.all_map]; rfl
theorem rK {α : Type} (q p : α → Bool) : ∀ l : List α, (l.filter q).all p = l.all fun x => !q x || p x
 | [] => rfl
 | x :: l => by
  rw [List.filter_cons, List.all_cons, ← rK q p l]
  cases h : q x <;> simp
def Ap {α β : Type} [DecidableEq α] (a : α) (b : β) : List (α × β) → List (α × β)
 | [] => [(a, b)]
 | p :: l => if p.1 = a then (a, b) :: l else p :: Ap a b l
theorem Aq {α β : Type} [DecidableEq α] (L : List (α × β)) (a : α) (b : β) : se L a b = Ap a b L := by
 have key : ∀ (L : List (α × β)) (j : Nat), (∃ i c, fp a L j = some (i, c) ∧ j ≤ i ∧ L.set (i - j) (a, b) = Ap a b L) ∨ (fp a L j = none ∧ L ++ [(a, b)] = Ap a b L) := by
  intro L
  induction L with
  | nil => intro j; exact .inr ⟨rfl, rfl⟩
  | cons p l ih =>
   intro j
   obtain ⟨x, y⟩ := p
   by_cases e : a = x
   ·refine .inl ⟨j, y, by simp [fp, e], Nat.le_refl _, ?_⟩
    rw [Nat.sub_self]; simp [Ap, e]
   have e' : ¬ x = a := fun h => e h.symm
   rcases ih (j + 1) with ⟨i, c, h1, h2, h3⟩ | ⟨h1, h2⟩
   ·refine .inl ⟨i, c, by simp [fp, e, h1], by omega, ?_⟩
    rw [show i - j = (i - (j + 1)) + 1 by omega, List.set_cons_succ, h3]
    simp [Ap, e']
   exact .inr ⟨by simp [fp, e, h1], by simp [Ap, e', h2]⟩
 unfold se
 rcases key L 0 with ⟨i, c, h1, -, h3⟩ | ⟨h1, h2⟩
 ·rw [h1]; exact h3
 rw [h1]; exact h2
theorem oF {α β : Type} [DecidableEq α] (p : α × β) (l : List (α × β)) (x : α) : lk (p :: l) x = if p.1 = x then some p.2 else lk l x := by
 unfold lk
 rw [List.find?_cons]
 by_cases e : p.1 = x <;> simp [e]
theorem wW {α β : Type} [DecidableEq α] (L : List (α × β)) (a : α) (b : β) (x : α) : lk (se L a b) x = if a = x then some b else lk L x := by
 rw [Aq]
 induction L with
 | nil => rw [Ap, oF]
 | cons p l ih =>
  unfold Ap
  by_cases e : p.1 = a
  ·rw [if_pos e, oF, oF, e]
   by_cases e2 : a = x <;> simp [e2]
  rw [if_neg e, oF, oF, ih]
  by_cases e2 : p.1 = x
  ·rw [if_pos e2, if_pos e2, if_neg (fun h => e (by rw [e2, h]))]
  rw [if_neg e2, if_neg e2]
end Go.Proofs.Ytmbaennilhdieaa
namespace Go.Proofs.Ytmbaennilhdieaa
variable {A1 A2 A3 A4 : Option Addr} {c1 c2 c3 c4 n1 n2 n3 n4 : Nat}
open Go.RowKit
abbrev vZ : DValue := ⟨0, 0, ⟨#[]⟩⟩
def iA (l : List DValue) (i : Nat) : DValue := l.getD i vZ
theorem ew {l : List DValue} {i : Nat} (h : i < l.length) : aH l (i : Int) = some (iA l i) := by
 rw [aY h]; unfold iA; simp [List.getD, h]
def iO (v : DValue) : Bool := (df 0 v).getD false
theorem uI (N : Nat) (v : DValue) : df N v = some (iO v) := by
 obtain ⟨b, hb⟩ := uJ 0 v
 have e : df N v = df 0 v := Eq.trans rfl rfl
 unfold iO
 rw [e, hb]; rfl
def numB (v : DValue) (a b : Int) : Bool := decide (v.Kind = 3) && (decide (a ≤ v.N) && decide (v.N ≤ b))
def noneB (v : DValue) (k : Int) : Bool := decide (v.Kind = 0) || decide (v.Kind = k)
theorem lT (N : Nat) (v : DValue) (a b : Int) : cD N v a b = some (numB v a b) := by
 unfold cD numB
 cases decide (v.Kind = 3) <;> cases decide (a ≤ v.N) <;> cases decide (v.N ≤ b) <;> rfl
theorem ko (N : Nat) (v : DValue) (k : Int) : bV N v k = some (noneB v k) := by
 unfold bV noneB
 cases decide (v.Kind = 0) <;> cases decide (v.Kind = k) <;> rfl
def tw (k : Int) : Bool := decide (k = 1) || decide (k = 2) || decide (k = 3) || decide (k = 6) || decide (k = 8) || decide (k = 9) || decide (k = 10)
theorem vP (N : Nat) (k : Int) : dF N k = some (tw k) := by
 unfold dF tw
 cases decide (k = 1) <;> cases decide (k = 2) <;> cases decide (k = 3) <;> cases decide (k = 6) <;> cases decide (k = 8) <;> cases decide (k = 9) <;> cases decide (k = 10) <;> rfl
def ik (k sh fl : Int) (l : List DValue) : Bool :=
 bif tw k || (decide (k = 7) && decide (0 < l.length)) then decide (1 ≤ l.length) && decide (l.length ≤ 1025) && (decide ((iA l 0).Kind = 1) || decide ((iA l 0).Kind = 7))
 else bif decide (k = 7) then decide (sh = 0) else bif !decide (sh = 0) || !decide (fl = 0) then false else bif decide (k = 5) then decide (l.length = 2) && noneB (iA l 0) 7 && noneB (iA l 1) 7 else decide (l.length = 0)
theorem dp {p q : Prop} [Decidable p] [Decidable q] (h : p ↔ q) : decide p = decide q := by
 by_cases hp : p
 ·rw [decide_eq_true hp, decide_eq_true (h.1 hp)]
 rw [decide_eq_false hp, decide_eq_false fun hq => hp (h.2 hq)]
theorem vG (N : Nat) (c : DCell) : cX N c = some (ik c.Kind c.Shape c.Flags c.Slots) := by
 unfold cX ik
 rw [vP, bs, dp (p := (0 : Int) < (c.Slots.length : Int)) (q := 0 < c.Slots.length) (by omega), dp (p := (1 : Int) ≤ (c.Slots.length : Int)) (q := 1 ≤ c.Slots.length) (by omega), dp (p := (c.Slots.length : Int) ≤ 1025) (q := c.Slots.length ≤ 1025) (by omega), dp (p := (c.Slots.length : Int) = 2) (q := c.Slots.length = 2) (by omega), dp (p := (c.Slots.length : Int) = 0) (q := c.Slots.length = 0) (by omega)]
 have hA : ∀ b : Bool, ((bif decide (1 ≤ c.Slots.length) then some (decide (c.Slots.length ≤ 1025)) else some false).bind fun b8 => (bif b8 then ((aH c.Slots 0).bind fun x10 => (bif decide (x10.Kind = 1) then (some true) else ((aH c.Slots 0).bind fun x12 => some (decide (x12.Kind = 7)))).bind fun b11 => some b11) else (some false)).bind fun b9 => some b9) = some (decide (1 ≤ c.Slots.length) && decide (c.Slots.length ≤ 1025) && (decide ((iA c.Slots 0).Kind = 1) || decide ((iA c.Slots 0).Kind = 7))) := fun _ => by
  by_cases h : 1 ≤ c.Slots.length
  ·have g : aH c.Slots 0 = some (iA c.Slots 0) := ew (i := 0) (by omega)
   rw [decide_eq_true h, g]
   simp only [bs]
   cases decide (c.Slots.length ≤ 1025) <;> cases decide ((iA c.Slots 0).Kind = 1) <;> cases decide ((iA c.Slots 0).Kind = 7) <;> rfl
  rw [decide_eq_false h]; rfl
 have hB : ((bif decide (c.Slots.length = 2) then ((aH c.Slots 0).bind fun x18 => (bV N x18 7).bind fun y19 => some y19) else (some false)).bind fun b17 => (bif b17 then ((aH c.Slots 1).bind fun x21 => (bV N x21 7).bind fun y22 => some y22) else (some false)).bind fun b20 => some b20) = some (decide (c.Slots.length = 2) && noneB (iA c.Slots 0) 7 && noneB (iA c.Slots 1) 7) := by
  by_cases h : c.Slots.length = 2
  ·have g : aH c.Slots 0 = some (iA c.Slots 0) := ew (i := 0) (by omega)
   have g1 : aH c.Slots 1 = some (iA c.Slots 1) := ew (i := 1) (by omega)
   rw [decide_eq_true h, g, g1]
   simp only [bs, ko]
   cases noneB (iA c.Slots 0) 7 <;> cases noneB (iA c.Slots 1) 7 <;> rfl
  rw [decide_eq_false h]; rfl
 rw [hA true, hB]
 cases tw c.Kind <;> cases decide (c.Kind = 7) <;> cases decide (0 < c.Slots.length) <;> cases decide (c.Shape = 0) <;> cases decide (c.Flags = 0) <;> cases decide (c.Kind = 5) <;> rfl
def iF : List DValue → Bool
 | k :: v :: r => decide (k.Kind = 7) && !decide (v.Kind = 8) && iF r
 | [_] => false
 | [] => true
def fu : List DValue → Bool
 | t :: h :: k :: s :: r => decide (t.Kind = 7) && !decide (h.Kind = 8) && (noneB k 7 && numB s 0 9007199254740992) && fu r
 | [] => true
 | _ => false
theorem fQ (k v : DValue) (r : List DValue) : iF (k :: v :: r) = (decide (k.Kind = 7) && !decide (v.Kind = 8) && iF r) := Eq.trans rfl rfl
theorem fP (t h k s : DValue) (r : List DValue) : fu (t :: h :: k :: s :: r) = (decide (t.Kind = 7) && !decide (h.Kind = 8) && (noneB k 7 && numB s 0 9007199254740992) && fu r) := Eq.trans rfl rfl
theorem sK : ∀ {l : List DValue}, iF l = true → l.length % 2 = 0
 | [], _ => rfl
 | [_], h => by cases h
 | k :: v :: r, h => by
  rw [fQ] at h
  rw [Bool.and_eq_true] at h
  have := sK h.2
  simp only [List.length_cons]; omega
theorem sJ : ∀ {l : List DValue}, fu l = true → l.length % 4 = 0
 | [], _ => rfl
 | [_], h => by cases h
 | [_, _], h => by cases h
 | [_, _, _], h => by cases h
 | t :: a :: k :: s :: r, h => by
  rw [fP] at h
  rw [Bool.and_eq_true] at h
  have := sJ h.2
  simp only [List.length_cons]; omega
theorem mQ {l r : List DValue} {i : Nat} {v : DValue} (h : l.drop i = v :: r) : aH l (i : Int) = some v ∧ l.drop (i + 1) = r := by
 have hl : i < l.length := by
  rcases Nat.lt_or_ge i l.length with h1 | h1
  ·exact h1
  rw [List.drop_eq_nil_of_le h1] at h; cases h
 rw [List.drop_eq_getElem_cons hl] at h
 obtain ⟨e1, e2⟩ := List.cons.inj h
 exact ⟨by rw [aY hl, e1], e2⟩
theorem sN (N : Nat) (l : List DValue) (hl : l.length ≤ 1000) : ∀ (m i : Nat), l.length < m + i → i ≤ l.length → (l.length - i) % 2 = 0 → r15_entries_l5 N 2 l m (i : Int) = some (iF (l.drop i))
 | 0, i, h, h2, _ => by omega
 | m + 1, i, h, h2, h3 => by
  rw [r15_entries_l5.eq_2]
  match hd : l.drop i with
  | [] =>
   have hi : l.length ≤ i := by have := congrArg List.length hd; rw [List.length_drop] at this; simp at this; omega
   rw [ci (by omega), cf]; rfl
  | [x] => have := congrArg List.length hd; rw [List.length_drop] at this; simp at this; omega
  | k :: v :: r =>
   have hlen := congrArg List.length hd
   rw [List.length_drop] at hlen; simp only [List.length_cons] at hlen
   obtain ⟨g1, d1⟩ := mQ hd
   obtain ⟨g2, d2⟩ := mQ d1
   rw [show (((i + 1 : Nat)) : Int) = (i : Int) + 1 by omega] at g2
   have ih := sN N l hl m (i + 2) (by omega) (by omega) (by omega)
   rw [show (((i + 2 : Nat)) : Int) = (i : Int) + 2 by omega, d2] at ih
   rw [cy (by omega), ct, g1, bs, r64 (by omega) (by omega), g2, bs, decide_eq_false (p := (2 : Int) = 4) (by decide), cf, bs, cf, r64 (by omega) (by omega), ih]
   simp only [fQ]
   cases decide (k.Kind = 7) <;> cases decide (v.Kind = 8) <;> rfl
theorem sL (N : Nat) (l : List DValue) (hl : l.length ≤ 1000) : ∀ (m i : Nat), l.length < m + i → i ≤ l.length → (l.length - i) % 4 = 0 → r15_entries_l5 N 4 l m (i : Int) = some (fu (l.drop i))
 | 0, i, h, h2, _ => by omega
 | m + 1, i, h, h2, h3 => by
  rw [r15_entries_l5.eq_2]
  match hd : l.drop i with
  | [] =>
   have hi : l.length ≤ i := by have := congrArg List.length hd; rw [List.length_drop] at this; simp at this; omega
   rw [ci (by omega), cf]; rfl
  | [x] => have := congrArg List.length hd; rw [List.length_drop] at this; simp at this; omega
  | [x, y] => have := congrArg List.length hd; rw [List.length_drop] at this; simp at this; omega
  | [x, y, z] => have := congrArg List.length hd; rw [List.length_drop] at this; simp at this; omega
  | t :: v :: k :: s :: r =>
   have hlen := congrArg List.length hd
   rw [List.length_drop] at hlen; simp only [List.length_cons] at hlen
   obtain ⟨g1, d1⟩ := mQ hd
   obtain ⟨g2, d2⟩ := mQ d1
   obtain ⟨g3, d3⟩ := mQ d2
   obtain ⟨g4, d4⟩ := mQ d3
   rw [show (((i + 1 : Nat)) : Int) = (i : Int) + 1 by omega] at g2
   rw [show (((i + 1 + 1 : Nat)) : Int) = (i : Int) + 2 by omega] at g3
   rw [show (((i + 1 + 1 + 1 : Nat)) : Int) = (i : Int) + 3 by omega] at g4
   have ih := sL N l hl m (i + 4) (by omega) (by omega) (by omega)
   rw [show (((i + 4 : Nat)) : Int) = (i : Int) + 4 by omega, d4] at ih
   rw [cy (by omega), ct, g1, bs, r64 (by omega) (by omega), g2, bs, decide_eq_true (p := (4 : Int) = 4) rfl, ct, r64 (by omega) (by omega), g3, bs, ko, bs, r64 (by omega) (by omega), g4, bs, lT, bs, r64 (by omega) (by omega), ih]
   simp only [fP]
   cases decide (t.Kind = 7) <;> cases decide (v.Kind = 8) <;> cases noneB k 7 <;> cases numB s 0 9007199254740992 <;> rfl
theorem zy (N : Nat) (hN : 2000 < N) (l : List DValue) (hl : l.length ≤ 1000) : bG N l 2 = some (iF l) := by
 unfold bG
 rw [iC (by decide)]
 have e : (l.length : Int).tmod 2 = ((l.length % 2 : Nat) : Int) := by rw [Int.tmod_eq_emod_of_nonneg (by omega)]; omega
 rw [e]
 by_cases h : l.length % 2 = 0
 ·rw [h, decide_eq_true (p := ((0 : Nat) : Int) = 0) rfl, nt, cf]
  exact sN N l hl N 0 (by omega) (by omega) (by omega)
 rw [decide_eq_false (by omega), nf, ct]
 cases hb : iF l with
 | false => rfl
 | true => exact absurd (sK hb) h
theorem zx (N : Nat) (hN : 2000 < N) (l : List DValue) (hl : l.length ≤ 1000) : bG N l 4 = some (fu l) := by
 unfold bG
 rw [iC (by decide)]
 have e : (l.length : Int).tmod 4 = ((l.length % 4 : Nat) : Int) := by rw [Int.tmod_eq_emod_of_nonneg (by omega)]; omega
 rw [e]
 by_cases h : l.length % 4 = 0
 ·rw [h, decide_eq_true (p := ((0 : Nat) : Int) = 0) rfl, nt, cf]
  exact sL N l hl N 0 (by omega) (by omega) (by omega)
 rw [decide_eq_false (by omega), nf, ct]
 cases hb : fu l with
 | false => rfl
 | true => exact absurd (sJ hb) h
def ji (k : Int) (l : List DValue) : Bool :=
 bif decide (k = 2) then decide (l.length ≤ 4096)
 else bif decide (k = 1) || decide (k = 5) then decide (l.length = 0)
 else bif decide (k = 3) then decide (l.length = 3) && numB (iA l 0) 0 9007199254740992 && noneB (iA l 1) 9
 else bif decide (k = 4) then decide (1 ≤ l.length) && decide (l.length ≤ 4097) && noneB (iA l 0) 9
 else bif decide (k = 6) then decide (l.length = 2) && numB (iA l 0) 0 3 && noneB (iA l 1) 9
 else bif decide (k = 7) then decide (4 ≤ l.length) && numB (iA l 2) 0 1 && numB (iA l 3) 0 9007199254740992
 else bif decide (k = 8) then iF l
 else bif decide (k = 10) then decide (1 ≤ l.length) && decide ((iA l 0).Kind = 7) && fu (l.drop 1)
 else bif decide (k = 9) then decide (2 ≤ l.length) && numB (iA l 0) 0 2
 else true
theorem xT (N : Nat) (hN : 2000 < N) (c : DCell) (hc : c.More.length ≤ 1000) : dR N c = some (ji c.Kind c.More) := by
 have h6 : ∀ p : Bool, p = (decide (c.Kind = 1) || decide (c.Kind = 5)) → c.Kind ≠ 2 → dE N c p = some (ji c.Kind c.More) := by
  intro p hp h2
  subst hp
  unfold dE ji
  rw [ej h2, cf]
  rcases Bool.eq_false_or_eq_true (decide (c.Kind = 1) || decide (c.Kind = 5)) with h15 | h15
  ·rw [h15, ct, ct, dp (p := (c.More.length : Int) = 0) (q := c.More.length = 0) (by omega)]
  rw [h15, cf, cf]
  by_cases k3 : c.Kind = 3
  ·rw [mW k3, ct, ct, dp (p := (c.More.length : Int) = 3) (q := c.More.length = 3) (by omega)]
   by_cases h : c.More.length = 3
   ·have g0 : aH c.More 0 = some (iA c.More 0) := ew (i := 0) (by omega)
    have g1 : aH c.More 1 = some (iA c.More 1) := ew (i := 1) (by omega)
    rw [decide_eq_true h, g0, g1]
    simp only [bs, lT, ko]
    cases numB (iA c.More 0) 0 9007199254740992 <;> cases noneB (iA c.More 1) 9 <;> rfl
   rw [decide_eq_false h]; rfl
  rw [ej k3, cf, cf]
  by_cases k4 : c.Kind = 4
  ·rw [mW k4, ct, ct, dp (p := (1 : Int) ≤ (c.More.length : Int)) (q := 1 ≤ c.More.length) (by omega), dp (p := (c.More.length : Int) ≤ 4097) (q := c.More.length ≤ 4097) (by omega)]
   by_cases h : 1 ≤ c.More.length
   ·have g0 : aH c.More 0 = some (iA c.More 0) := ew (i := 0) (by omega)
    rw [decide_eq_true h, g0]
    simp only [bs, ko]
    cases decide (c.More.length ≤ 4097) <;> cases noneB (iA c.More 0) 9 <;> rfl
   rw [decide_eq_false h]; rfl
  rw [ej k4, cf, cf]
  by_cases k6 : c.Kind = 6
  ·rw [mW k6, ct, ct, dp (p := (c.More.length : Int) = 2) (q := c.More.length = 2) (by omega)]
   by_cases h : c.More.length = 2
   ·have g0 : aH c.More 0 = some (iA c.More 0) := ew (i := 0) (by omega)
    have g1 : aH c.More 1 = some (iA c.More 1) := ew (i := 1) (by omega)
    rw [decide_eq_true h, g0, g1]
    simp only [bs, lT, ko]
    cases numB (iA c.More 0) 0 3 <;> cases noneB (iA c.More 1) 9 <;> rfl
   rw [decide_eq_false h]; rfl
  rw [ej k6, cf, cf]
  by_cases k7 : c.Kind = 7
  ·rw [mW k7, ct, ct, dp (p := (4 : Int) ≤ (c.More.length : Int)) (q := 4 ≤ c.More.length) (by omega)]
   by_cases h : 4 ≤ c.More.length
   ·have g2 : aH c.More 2 = some (iA c.More 2) := ew (i := 2) (by omega)
    have g3 : aH c.More 3 = some (iA c.More 3) := ew (i := 3) (by omega)
    rw [decide_eq_true h, g2, g3]
    simp only [bs, lT]
    cases numB (iA c.More 2) 0 1 <;> cases numB (iA c.More 3) 0 9007199254740992 <;> rfl
   rw [decide_eq_false h]; rfl
  rw [ej k7, cf, cf]
  by_cases k8 : c.Kind = 8
  ·rw [mW k8, ct, ct, zy N hN _ hc, bs]
  rw [ej k8, cf, cf]
  by_cases k10 : c.Kind = 10
  ·rw [mW k10, ct, ct, dp (p := (1 : Int) ≤ (c.More.length : Int)) (q := 1 ≤ c.More.length) (by omega)]
   by_cases h : 1 ≤ c.More.length
   ·have g0 : aH c.More 0 = some (iA c.More 0) := ew (i := 0) (by omega)
    have hd : ((c.More.drop ((1 : Int).toNat)).take (c.More.length - (1 : Int).toNat)) = c.More.drop 1 := List.take_of_length_le (by rw [List.length_drop]; exact Nat.le_refl _)
    rw [decide_eq_true h, g0, hd, iC ⟨by omega, by show 1 ≤ _; omega, Nat.le_refl _⟩, zx N hN _ (by rw [List.length_drop]; omega)]
    simp only [bs]
    cases decide ((iA c.More 0).Kind = 7) <;> cases fu (c.More.drop 1) <;> rfl
   rw [decide_eq_false h]; rfl
  rw [ej k10, cf, cf]
  by_cases k9 : c.Kind = 9
  ·rw [mW k9, ct, ct, dp (p := (2 : Int) ≤ (c.More.length : Int)) (q := 2 ≤ c.More.length) (by omega)]
   by_cases h : 2 ≤ c.More.length
   ·have g0 : aH c.More 0 = some (iA c.More 0) := ew (i := 0) (by omega)
    rw [decide_eq_true h, g0]
    simp only [bs, lT]
    cases numB (iA c.More 0) 0 2 <;> rfl
   rw [decide_eq_false h]; rfl
  rw [ej k9, cf, cf]
 unfold dR
 rw [ci (by omega), cf]
 by_cases k2 : c.Kind = 2
 ·rw [mW k2, ct]
  unfold ji
  rw [mW k2, ct, dp (p := (c.More.length : Int) ≤ 4096) (q := c.More.length ≤ 4096) (by omega)]
 rw [ej k2, cf]
 by_cases k1 : c.Kind = 1
 ·rw [mW k1, ct]; exact h6 _ (by rw [mW k1]; rfl) k2
 rw [ej k1, cf]; exact h6 _ (by rw [ej k1]; rfl) k2
def dk (c : DCell) : Bool :=
 (!decide (c.Kind < 1) && !decide (11 < c.Kind) && !decide (c.Shape < 0) && !decide (c.Flags < 0) && !decide (63 < c.Flags) && !decide (c.Age < 0) && !decide (1 < c.Age)) && (c.Slots.all iO && (c.More.all iO && (ik c.Kind c.Shape c.Flags c.Slots && ji c.Kind c.More)))
theorem kF (N : Nat) (hN : 2000 < N) (c : DCell) (hS : c.Slots.length ≤ 1000) (hc : c.More.length ≤ 1000) : bI N c = some (dk c) := by
 have h19 : bH N c = some (ik c.Kind c.Shape c.Flags c.Slots && ji c.Kind c.More) := by
  unfold bH
  rw [vG, xT N hN c hc, bs]
  cases ik c.Kind c.Shape c.Flags c.Slots <;> rfl
 have h20 : r15_Right_l20 N c N 0 = some (c.More.all iO && (ik c.Kind c.Shape c.Flags c.Slots && ji c.Kind c.More)) := by
  rw [mI (fun k i => r15_Right_l20 N c k i) c.More iO (some false) (some (ik c.Kind c.Shape c.Flags c.Slots && ji c.Kind c.More)) (fun k i h => ?_) (fun k => ?_) N (by omega)]
  ·cases c.More.all iO <;> rfl
  ·rw [r15_Right_l20.eq_2, cy (by omega), ct, aY h, bs, uI, bs, r64 (by omega) (by omega)]
   cases iO c.More[i] <;> rfl
  rw [r15_Right_l20.eq_2, ci (by omega), cf, h19]
 have h12 : r15_Right_l12 N c N 0 = some (c.Slots.all iO && (c.More.all iO && (ik c.Kind c.Shape c.Flags c.Slots && ji c.Kind c.More))) := by
  rw [mI (fun k i => r15_Right_l12 N c k i) c.Slots iO (some false) (some (c.More.all iO && (ik c.Kind c.Shape c.Flags c.Slots && ji c.Kind c.More))) (fun k i h => ?_) (fun k => ?_) N (by omega)]
  ·cases c.Slots.all iO <;> rfl
  ·rw [r15_Right_l12.eq_2, cy (by omega), ct, aY h, bs, uI, bs, r64 (by omega) (by omega)]
   cases iO c.Slots[i] <;> rfl
  rw [r15_Right_l12.eq_2, ci (by omega), cf]
  unfold jQ
  exact h20
 unfold bI dk
 rw [h12]
 cases decide (c.Kind < 1) <;> cases decide (11 < c.Kind) <;> cases decide (c.Shape < 0) <;> cases decide (c.Flags < 0) <;> cases decide (63 < c.Flags) <;> cases decide (c.Age < 0) <;> cases decide (1 < c.Age) <;> rfl
end Go.Proofs.Ytmbaennilhdieaa
namespace Go.Proofs.Ytmbaennilhdieaa
variable {A1 A2 A3 A4 : Option Addr} {c1 c2 c3 c4 n1 n2 n3 n4 : Nat}
open Go.RowKit
theorem rv (N : Nat) (x : Int) (l : List Int) (hl : l.length ≤ 5000) : ∀ (m i : Nat), l.length < m + i → i ≤ l.length → Sat (slices_Index_l3 N x l m (i : Int)) fun r => decide (0 ≤ r) = decide (x ∈ l.drop i)
 | 0, i, h, h2 => by omega
 | m + 1, i, h, h2 => by
  rw [slices_Index_l3.eq_2]
  by_cases hi : i < l.length
  ·rw [cy (by omega), ct, aY hi, bs, List.drop_eq_getElem_cons hi]
   refine cP (fun e => ?_) fun e => ?_
   ·exact aP (by rw [decide_eq_true (by omega), decide_eq_true]; rw [e]; exact List.mem_cons_self ..)
   rw [r64 (by omega) (by omega)]
   have := rv N x l hl m (i + 1) (by omega) hi
   simp only [Int.natCast_add, Int.cast_ofNat_Int] at this
   refine this.mono fun r hr => ?_
   rw [hr]
   have : (x ∈ l[i] :: l.drop (i + 1)) ↔ x ∈ l.drop (i + 1) := ⟨fun h => (List.mem_cons.1 h).resolve_left (fun e2 => e e2), List.mem_cons_of_mem _⟩
   rw [decide_eq_decide]; exact this.symm
  rw [ci (by omega), cf, List.drop_eq_nil_of_le (by omega)]
  exact aP (by simp)
theorem gU (N : Nat) (hN : 5000 < N) (l : List Int) (hl : l.length ≤ 5000) (x : Int) : cq N l x = some (decide (x ∈ l)) := by
 obtain ⟨r, h1, h2⟩ := rv N x l hl N 0 (by omega) (by omega)
 unfold cq i4
 rw [show slices_Index_l3 N x l N 0 = some r from h1, bs, h2]
 rfl
def opens (p : Int → Bool) : List DValue → List Int
 | k :: v :: l => (bif bn v && p k.N then [v.N] else []) ++ opens p l
 | _ => []
theorem kN (p : Int → Bool) (k v : DValue) (l : List DValue) : opens p (k :: v :: l) = (bif bn v && p k.N then [v.N] else []) ++ opens p l := rfl
theorem sr (p : Int → Bool) : ∀ l : List DValue, (opens p l).length ≤ l.length
 | [] => Nat.le_refl _
 | [_] => Nat.zero_le _
 | k :: v :: l => by
  have := sr p l
  rw [kN, List.length_append]
  cases bn v && p k.N <;> simp <;> omega
theorem uO (v : DValue) : ((bif decide (v.Kind = 7) then (some true) else (some (decide (v.Kind = 9)))) : Option Bool) = some (bn v) := by unfold bn; cases decide (v.Kind = 7) <;> rfl
def fw (N : Nat) (c : DCell) (l : List Int) : List Int := bif kS N c then opens (fun x => decide (x ∈ l)) c.More else []
theorem vU (N : Nat) (c : DCell) (l : List Int) : (fw N c l).length ≤ c.More.length := by
 unfold fw
 cases kS N c
 ·exact Nat.zero_le _
 exact sr _ _
theorem vS (N : Nat) (hN : 5000 < N) (l : List Int) (hl : l.length ≤ 5000) (k v : DValue) (s : List Int) (hs : s.length ≤ 5000) : cm (fun x st => di N l x st) (k, v) (none, s) = some (true, (none, s ++ (bif bn v && decide (k.N ∈ l) then [v.N] else []))) := by
 unfold cm di
 simp only [uO, bs, gU N hN l hl]
 cases bn v
 ·simp only [cf, bs, Bool.false_and, List.append_nil]; rfl
 simp only [ct, bs, Bool.true_and]
 cases decide (k.N ∈ l)
 ·simp only [cf, List.append_nil]; rfl
 simp only [ct]
 rw [rF (by simp; omega)]
 rfl
theorem oS (N : Nat) (hN : 5000 < N) (l : List Int) (hl : l.length ≤ 5000) (c : DCell) (hc : c.More.length ≤ 1000) (he : c.More.length % 2 = 0) : ∀ (m i : Nat) (s : List Int), c.More.length < m + i → i ≤ c.More.length → i % 2 = 0 → s.length ≤ i → weak_entries_c1_l4 N (cm (fun x st => di N l x st)) c m (i : Int) (none, s) = some (none, s ++ opens (fun x => decide (x ∈ l)) (c.More.drop i))
 | 0, i, s, h, h2, _, _ => by omega
 | m + 1, i, s, h, h2, h3, h4 => by
  rw [weak_entries_c1_l4.eq_2, r64 (a := (i : Int) + 1) (by omega) (by omega)]
  by_cases hi : i < c.More.length
  ·have hi1 : i + 1 < c.More.length := by omega
   have hl1 : aH c.More ((i : Int) + 1) = some c.More[i + 1] := by
    have := aY hi1
    simpa using this
   rw [cy (by omega), ct, aY hi, bs, r64 (a := (i : Int) + 1) (by omega) (by omega), hl1, bs, vS N hN l hl _ _ s (by omega), bs]
   simp only [nt, cf]
   rw [r64 (by omega) (by omega)]
   have hlen : (s ++ (bif bn c.More[i + 1] && decide (c.More[i].N ∈ l) then [c.More[i + 1].N] else [])).length ≤ i + 2 := by
    cases bn c.More[i + 1] && decide (c.More[i].N ∈ l) <;> simp <;> omega
   have := oS N hN l hl c hc he m (i + 2) _ (by omega) (by omega) (by omega) hlen
   simp only [Int.natCast_add, Int.cast_ofNat_Int] at this
   rw [this, List.drop_eq_getElem_cons hi, List.drop_eq_getElem_cons hi1, kN, List.append_assoc]
  rw [ci (by omega), cf, List.drop_eq_nil_of_le (by omega)]
  simp [opens]
theorem vR (N : Nat) (hN : 5000 < N) (l : List Int) (hl : l.length ≤ 5000) (c : DCell) (hS : c.Slots.length ≤ 1000) (hc : c.More.length ≤ 1000) : iH N c l = some (fw N c l) := by
 obtain ⟨-, h1, h2⟩ := zq N (by omega) c hS hc
 unfold iH fw dA
 rw [h1, bs]
 cases hw : kS N c
 ·rfl
 have e : eN N c = some () := rfl
 have := oS N hN l hl c hc (h2 hw) N 0 [] (by omega) (by omega) rfl (by simp)
 simp only [nt, cf, ct, e, bs]
 have h3 : weak_entries_c1_l4 N (cm (fun x st => di N l x st)) c N 0 (none, []) = some (none, [] ++ opens (fun x => decide (x ∈ l)) (c.More.drop 0)) := this
 rw [h3, bs]
 rfl
end Go.Proofs.Ytmbaennilhdieaa
namespace Go.Proofs.Ytmbaennilhdieaa
variable {A1 A2 A3 A4 : Option Addr} {c1 c2 c3 c4 n1 n2 n3 n4 : Nat}
open Go.RowKit
theorem uE : ∀ (b : Nat) {l : List Int}, l.Nodup → (∀ x ∈ l, 1 ≤ x ∧ x ≤ (b : Int)) → l.length ≤ b
 | 0, l, _, h => by
  cases l with
  | nil => exact Nat.le_refl _
  | cons x l => have := h x (by simp); omega
 | b + 1, l, hn, h => by
  have h1 := uE b (hn.erase ((b : Int) + 1)) fun x hx => by
   obtain ⟨h2, h3⟩ := hn.mem_erase_iff.1 hx
   have := h x h3
   omega
  have h2 := List.length_erase (a := (b : Int) + 1) (l := l)
  split at h2 <;> omega
def W64 (m : DMemory) : Prop := ∀ c ∈ m.Young ++ m.Old, ∀ v ∈ c.Slots ++ c.More, aK v.N
theorem W64.at_ {m : DMemory} (h : W64 m) (a : Int) : ∀ v ∈ (cU m a).Slots ++ (cU m a).More, aK v.N := by
 unfold cU
 cases hc : dU m a with
 | none => intro v hv; simp [sc] at hv
 | some c => exact h c (ld hc)
structure Tr (m : DMemory) (all : List Int) (met : List (Int × Unit)) : Prop where
 nd : all.Nodup
 mem : ∀ x, x ∈ met.map (·.1) ↔ x ∈ all
 has : ∀ x ∈ all, bS m x = true
def Et (m : DMemory) (all : List Int) (k : Nat) : Prop := ∀ (i : Nat) (a x : Int), i < k → all[i]? = some a → x ∈ bv (cU m a) → bS m x = true → x ∈ all
end Go.Proofs.Ytmbaennilhdieaa