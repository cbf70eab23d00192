/- Merged texts: part 4. No conditions of their own. -/
import Derived.Test.YtmbaennilhdieaaG3
namespace Go.Proofs.Ytmbaennilhdieaa
variable {A1 A2 A3 A4 A5 : Option Addr} {B1 M6 c1 c2 c3 c4 c5 n1 n2 n3 n4 n5 : Nat}
open Go.RowKit Asn
set_option maxRecDepth 20000
def fk (N : Nat) (a0 : DValue) : Option Bool :=
 (bif decide (a0.Kind = 7) then (some true) else (some (decide (a0.Kind = 9)))).bind fun b2 => some b2
theorem jX {N : Nat} {a0 : DValue} {r : Bool} (h : fk N a0 = some r) : Okc Try.prog 82 [.agg #[iV a0.Kind, iV a0.N, .string a0.S]] ([]) (fun u post => u = .bool r ∧ post = []) := by
 refine bz Try.func82 rfl rfl ?_
 simp only [aQ]
 refine run ?_
 refine gD (aU rfl rfl) ?_
 rintro _ _ ⟨B1, rfl, rfl⟩
 refine run ?_
 obtain ⟨b2, hb2, h⟩ := aa h
 refine aw 4 10 b2 ?_ ?_
 ·clear h
  refine ax 6 rfl (fun g2 => ?_) (fun g2 => ?_)
  ·have h := ag g2 hb2
   refine run ?_
   obtain rfl := ak h
   exact ad sA (ab [0] 1 rfl rfl)
  have h := ah g2 hb2
  refine run ?_
  obtain rfl := ak h
  exact ad sA (ab [0] 1 rfl rfl)
 refine run ?_
 obtain rfl := ak h
 exact aB rfl rfl (ab [] 1 rfl rfl) ⟨rfl, rfl⟩
theorem iv {r : Bool} : ∀ v post, ((fun (u : Value) (post : List Chunk) => u = .bool r ∧ post = [])) v post → ∀ c ∈ post, bX c := by
 rintro _ _ ⟨rfl, rfl⟩; exact aj
def cv (N : Nat) (a1 : Bool) (x8 : Bool × DValue) : ((List Int)) → Option (Option Exit × (List Int))
 | p9 => (bif x8.1 == a1 then ((fk N x8.2).bind fun y14 => some y14) else (some false)).bind fun b13 => bif b13 then (bD (cu (p9.length + ([x8.2.N] : List Int).length)) (some (none, p9 ++ ([x8.2.N] : List Int)))) else (some (none, p9))
def d9 (N : Nat) (a0 : DCell) (a1 : Bool) : Option (List Int) :=
 (ju N a0).bind fun y6 => (fG N a0 (cm (fun x st => cv N a1 x st)) (none, [])).bind fun y10 => oW y10.1 (some y10.2) none (fun _ => none)
theorem jL {N : Nat} {a0 : DCell} {a1 : Bool} {r : (List Int)} (h : d9 N a0 a1 = some r) : Okc Try.prog 110 [.agg #[iV a0.Kind, iV a0.Shape, iV a0.Flags, iV a0.Age, .slice A1 n1 c1, .slice A2 n2 c2], .bool a1] ([aF A1 n1 c1 a0.Slots, aF A2 n2 c2 a0.More]) (fun u post => ∃ A0 n0 c0, u = .slice A0 n0 c0 ∧ post = [bN A0 n0 c0 r]) := by
 refine bz Try.func110 rfl rfl ?_
 simp only [aQ]
 refine run ?_
 refine gD (aU rfl rfl) ?_
 rintro _ _ ⟨B3, rfl, rfl⟩
 refine gD (aU rfl rfl) ?_
 rintro _ _ ⟨B4, rfl, rfl⟩
 refine run ?_
 refine gD (aS yv rfl) ?_
 rintro _ _ ⟨B5, rfl, rfl⟩
 refine run ?_
 refine av ?_
 refine run ?_
 refine gR (aE (us := [iV a0.Kind, iV a0.Shape, iV a0.Flags, iV a0.Age, .slice A1 n1 c1, .slice A2 n2 c2]) 2 rfl rfl ba rfl) ?_
 obtain ⟨y6, hy6, h⟩ := aa h
 refine gD (al (pY hy6) xr rfl (mem_cons (am (i := 3) rfl rfl) (mem_cons (am (i := 4) rfl rfl) aj)) nm) ?_
 rintro _ _ ⟨_, ⟨B7, rfl, rfl⟩, rfl⟩
 refine o3 ?_
 refine kO ?_
 refine fb ?_ cI (fZ 0 rfl)
 obtain ⟨y10, hy10, h⟩ := aa h
 refine o0 (en := (fun x => [.bool x.1, .agg #[iV x.2.Kind, iV x.2.N, .string x.2.S]])) (fun x st => cv N a1 x st) (fun (st : (List Int)) (mz : ((Option Addr × Nat × Nat))) => [aq B4 4 [.bool a1], gj (ge .i64) 3 (.slice mz.1 mz.2.1 mz.2.2) st, aq B5 31 [.slice mz.1 mz.2.1 mz.2.2]]) [bY B7 42 [iV a0.Kind, iV a0.Shape, iV a0.Flags, iV a0.Age, .slice A1 n1 c1, .slice A2 n2 c2], aF A1 n1 c1 a0.Slots, aF A2 n2 c2 a0.More] ([]) ((none, 0, 0)) rfl rfl xp rfl (fun _ => rfl) (fun l G hY => (mm hy10 hY).mono fun _ _ hh => hh.2) ((cz (ge .i64) 3 _).trans (bO [1, 5, 6] [] [3, 0, 2] 7 rfl)) h ?_ ?_ ?_ ?_
 ·rintro l x8 p9 je sr8 ⟨A9, n9, c9⟩ h
  replace h : cv N a1 x8 p9 = some (je, sr8) := h
  simp only [qn, List.zip_cons_cons, List.zip_nil_left, List.zip_nil_right, List.reverse_cons, List.reverse_nil, List.nil_append, List.cons_append]
  refine run ?_
  refine gD (aS gz rfl) ?_
  rintro _ _ ⟨B12, rfl, rfl⟩
  refine gO (ay (us := [iV x8.2.Kind, iV x8.2.N, .string x8.2.S]) (cs' := [iV x8.2.Kind, iV x8.2.N, .string x8.2.S]) 0 rfl rfl rfl rfl aG rfl rfl rfl) ?_
  rintro _ _ rfl
  refine run ?_
  refine gE (Cm rfl rfl Try.underlying4) ?_
  refine run ?_
  obtain ⟨b13, hb13, h⟩ := aa h
  refine aw 3 18 b13 ?_ ?_
  ·clear h
   refine ax 15 rfl (fun g13 => ?_) (fun g13 => ?_)
   ·have h := ag g13 hb13
    refine aZ (aE (us := [iV x8.2.Kind, iV x8.2.N, .string x8.2.S]) 0 rfl rfl bp rfl) rfl (aJ g13 rfl) rfl ?_
    obtain ⟨y14, hy14, h⟩ := aa h
    refine bM (al (jX hy14) ws rfl (aj) iv) rfl (aJ g13 rfl) rfl ?_
    rintro _ _ ⟨_, ⟨rfl, rfl⟩, rfl⟩
    refine run ?_
    obtain rfl := ak h
    exact ad sA (ab [0, 1, 2, 3] 4 rfl rfl)
   have h := ah g13 hb13
   refine run ?_
   obtain rfl := ak h
   exact ad sA (ab [0, 1, 2, 3] 4 rfl rfl)
  refine run ?_
  refine ar rfl (fun g15 => ?_) (fun g15 => ?_)
  ·replace h := ag g15 h
   refine run ?_
   refine gD (bB (R := (ge .i64)) (vss := [[iV x8.2.N]]) (xs := [x8.2.N]) rfl (fa _) rfl rfl (fun _ _ hr => .cons rfl All2.nil)) ?_
   rintro _ _ ⟨A16, n16, c16, rfl, rfl⟩
   obtain ⟨q17, h⟩ := ao h
   refine gD (bm 3 0 rfl rfl aM rfl rfl Try.underlying31 ui rfl rfl q17) ?_
   rintro _ _ ⟨A18, n18, c18, rfl, rfl⟩
   refine ck ([bN A16 n16 c16 ([x8.2.N] : List Int), aq B12 38 [iV x8.2.Kind, iV x8.2.N, .string x8.2.S], aq B4 4 [.bool a1], bN A18 n18 c18 (p9 ++ ([x8.2.N] : List Int)), aq B5 31 [.slice A9 n9 c9]]) rfl ?_
   refine gO (ay (us := [.slice A18 n18 c18]) (cs' := [.slice A18 n18 c18]) 4 rfl rfl rfl rfl nv rfl rfl rfl) ?_
   rintro _ _ rfl
   refine run ?_
   obtain ⟨rfl, rfl⟩ := Prod.mk.inj (Option.some.inj h)
   exact sb ((ab [2, 3, 4] 5 rfl rfl).trans (dq (A18, n18, c18) rfl))
  replace h := ah g15 h
  refine run ?_
  obtain ⟨rfl, rfl⟩ := Prod.mk.inj (Option.some.inj h)
  exact sb ((ab [1, 2, 3] 4 rfl rfl).trans (dq (A9, n9, c9) rfl))
 ·rintro ⟨A9, n9, c9⟩ h
  refine jO ([aq B4 4 [.bool a1], bN A9 n9 c9 y10.2, aq B5 31 [.slice A9 n9 c9]]) rfl ?_
  refine run ?_
  obtain rfl := ak h
  exact aB rfl rfl (ab [1] 3 rfl rfl) ⟨_, _, _, rfl, rfl⟩
 ·rintro ⟨A9, n9, c9⟩ h
  exact aA h
 rintro i ⟨A9, n9, c9⟩ h
 exact aA h
theorem iG {r : (List Int)} : ∀ v post, ((fun (u : Value) (post : List Chunk) => ∃ A0 n0 c0, u = .slice A0 n0 c0 ∧ post = [bN A0 n0 c0 r])) v post → ∀ c ∈ post, bX c := by
 rintro _ _ ⟨_, _, _, rfl, rfl⟩; exact mem_cons bE (aj)
def eo (N : Nat) (a0 : DCell) : Option (List Int) :=
 (d9 N a0 true).bind fun y4 => some y4
theorem ka {N : Nat} {a0 : DCell} {r : (List Int)} (h : eo N a0 = some r) : Okc Try.prog 75 [.agg #[iV a0.Kind, iV a0.Shape, iV a0.Flags, iV a0.Age, .slice A1 n1 c1, .slice A2 n2 c2]] ([aF A1 n1 c1 a0.Slots, aF A2 n2 c2 a0.More]) (fun u post => ∃ A0 n0 c0, u = .slice A0 n0 c0 ∧ post = [bN A0 n0 c0 r]) := by
 refine bz Try.func75 rfl rfl ?_
 simp only [aQ]
 refine run ?_
 refine gD (aU rfl rfl) ?_
 rintro _ _ ⟨B3, rfl, rfl⟩
 refine run ?_
 refine gR (aE (us := [iV a0.Kind, iV a0.Shape, iV a0.Flags, iV a0.Age, .slice A1 n1 c1, .slice A2 n2 c2]) 0 rfl rfl ba rfl) ?_
 obtain ⟨y4, hy4, h⟩ := aa h
 refine gD (al (jL hy4) xw rfl (mem_cons (am (i := 1) rfl rfl) (mem_cons (am (i := 2) rfl rfl) aj)) iG) ?_
 rintro _ _ ⟨_, ⟨A5, n5, c5, rfl, rfl⟩, rfl⟩
 refine run ?_
 obtain rfl := ak h
 exact aB rfl rfl (ab [0] 4 rfl rfl) ⟨_, _, _, rfl, rfl⟩
theorem iz {r : (List Int)} : ∀ v post, ((fun (u : Value) (post : List Chunk) => ∃ A0 n0 c0, u = .slice A0 n0 c0 ∧ post = [bN A0 n0 c0 r])) v post → ∀ c ∈ post, bX c := by
 rintro _ _ ⟨_, _, _, rfl, rfl⟩; exact mem_cons bE (aj)
def fH (N : Nat) (a0 : DCell) : Option (List Int) :=
 (d9 N a0 false).bind fun y4 => some y4
theorem rG {N : Nat} {a0 : DCell} {r : (List Int)} (h : fH N a0 = some r) : Okc Try.prog 109 [.agg #[iV a0.Kind, iV a0.Shape, iV a0.Flags, iV a0.Age, .slice A1 n1 c1, .slice A2 n2 c2]] ([aF A1 n1 c1 a0.Slots, aF A2 n2 c2 a0.More]) (fun u post => ∃ A0 n0 c0, u = .slice A0 n0 c0 ∧ post = [bN A0 n0 c0 r]) := by
 refine bz Try.func109 rfl rfl ?_
 simp only [aQ]
 refine run ?_
 refine gD (aU rfl rfl) ?_
 rintro _ _ ⟨B3, rfl, rfl⟩
 refine run ?_
 refine gR (aE (us := [iV a0.Kind, iV a0.Shape, iV a0.Flags, iV a0.Age, .slice A1 n1 c1, .slice A2 n2 c2]) 0 rfl rfl ba rfl) ?_
 obtain ⟨y4, hy4, h⟩ := aa h
 refine gD (al (jL hy4) xw rfl (mem_cons (am (i := 1) rfl rfl) (mem_cons (am (i := 2) rfl rfl) aj)) iG) ?_
 rintro _ _ ⟨_, ⟨A5, n5, c5, rfl, rfl⟩, rfl⟩
 refine run ?_
 obtain rfl := ak h
 exact aB rfl rfl (ab [0] 4 rfl rfl) ⟨_, _, _, rfl, rfl⟩
theorem pB {r : (List Int)} : ∀ v post, ((fun (u : Value) (post : List Chunk) => ∃ A0 n0 c0, u = .slice A0 n0 c0 ∧ post = [bN A0 n0 c0 r])) v post → ∀ c ∈ post, bX c := by
 rintro _ _ ⟨_, _, _, rfl, rfl⟩; exact mem_cons bE (aj)
def dH (N : Nat) (a0 : DCell) : Option (List Int) :=
 (eo N a0).bind fun y4 => (fH N a0).bind fun y6 => bD (cu (y4.length + y6.length)) (some (y4 ++ y6))
theorem jj {N : Nat} {a0 : DCell} {r : (List Int)} (h : dH N a0 = some r) : Okc Try.prog 73 [.agg #[iV a0.Kind, iV a0.Shape, iV a0.Flags, iV a0.Age, .slice A1 n1 c1, .slice A2 n2 c2]] ([aF A1 n1 c1 a0.Slots, aF A2 n2 c2 a0.More]) (fun u post => ∃ A0 n0 c0, u = .slice A0 n0 c0 ∧ post = [bN A0 n0 c0 r]) := by
 refine bz Try.func73 rfl rfl ?_
 simp only [aQ]
 refine run ?_
 refine gD (aU rfl rfl) ?_
 rintro _ _ ⟨B3, rfl, rfl⟩
 refine run ?_
 refine av ?_
 refine dY (by kernel_rfl) _ (ac _) ?_
 refine bL 0 rfl (by kernel_rfl) (aE (us := [iV a0.Kind, iV a0.Shape, iV a0.Flags, iV a0.Age, .slice A1 n1 c1, .slice A2 n2 c2]) 0 rfl rfl ba rfl) rfl rfl ?_
 refine bL 2 rfl (by kernel_rfl) (aE (us := [iV a0.Kind, iV a0.Shape, iV a0.Flags, iV a0.Age, .slice A1 n1 c1, .slice A2 n2 c2]) 0 rfl rfl ba rfl) rfl rfl ?_
 obtain ⟨y4, hy4, h⟩ := aa h
 refine ea 1 rfl (by kernel_rfl) (al (ka hy4) wu rfl (mem_cons (am (i := 1) rfl rfl) (mem_cons (am (i := 2) rfl rfl) aj)) iz) rfl rfl rfl ?_
 rintro _ _ ⟨_, ⟨A5, n5, c5, rfl, rfl⟩, rfl⟩
 refine ⟨[aq B3 42 [iV a0.Kind, iV a0.Shape, iV a0.Flags, iV a0.Age, .slice A1 n1 c1, .slice A2 n2 c2], aF A1 n1 c1 a0.Slots, aF A2 n2 c2 a0.More], ab [1, 2, 3] 4 rfl rfl, ac _, ?_⟩
 obtain ⟨y6, hy6, h⟩ := aa h
 refine ea 3 rfl (by kernel_rfl) (al (rG hy6) Bp rfl (mem_cons (am (i := 2) rfl rfl) (mem_cons (am (i := 3) rfl rfl) aj)) pB) rfl rfl rfl ?_
 rintro _ _ ⟨_, ⟨A7, n7, c7, rfl, rfl⟩, rfl⟩
 refine ⟨[aq B3 42 [iV a0.Kind, iV a0.Shape, iV a0.Flags, iV a0.Age, .slice A1 n1 c1, .slice A2 n2 c2], aF A1 n1 c1 a0.Slots, aF A2 n2 c2 a0.More], ab [2, 3, 4] 5 rfl rfl, ac _, ?_⟩
 obtain ⟨q8, h⟩ := ao h
 refine ea 4 rfl (by kernel_rfl) (bm 1 0 rfl rfl aM rfl rfl Try.underlying31 ui rfl rfl q8) rfl rfl rfl ?_
 rintro _ _ ⟨A9, n9, c9, rfl, rfl⟩
 refine ⟨[aq B3 42 [iV a0.Kind, iV a0.Shape, iV a0.Flags, iV a0.Age, .slice A1 n1 c1, .slice A2 n2 c2], aF A1 n1 c1 a0.Slots, aF A2 n2 c2 a0.More], ab [2, 3, 4] 5 rfl rfl, ac _, ?_⟩
 refine iR ([bN A7 n7 c7 y6, bN A9 n9 c9 (y4 ++ y6), aq B3 42 [iV a0.Kind, iV a0.Shape, iV a0.Flags, iV a0.Age, .slice A1 n1 c1, .slice A2 n2 c2], aF A1 n1 c1 a0.Slots, aF A2 n2 c2 a0.More]) rfl ?_
 refine aW 5 rfl (by kernel_rfl) (bP rfl) rfl rfl ?_
 refine dX (by kernel_rfl) ?_
 refine run ?_
 obtain rfl := ak h
 exact aB rfl rfl (ab [1] 5 rfl rfl) ⟨_, _, _, rfl, rfl⟩
theorem ic {r : (List Int)} : ∀ v post, ((fun (u : Value) (post : List Chunk) => ∃ A0 n0 c0, u = .slice A0 n0 c0 ∧ post = [bN A0 n0 c0 r])) v post → ∀ c ∈ post, bX c := by
 rintro _ _ ⟨_, _, _, rfl, rfl⟩; exact mem_cons bE (aj)
def gI (N : Nat) (a0 : Int) (a1 : DMemory) : Option Bool :=
 (eQ N a1 a0).bind fun y4 => some (!y4)
theorem oC {N : Nat} {a0 : Int} {a1 : DMemory} {r : Bool} (h : gI N a0 a1 = some r) : Okc Try.prog 107 [iV a0, pV B1 0] ([bY B1 24 [.slice A2 n2 c2, .slice A3 n3 c3], aR A2 n2 c2 a1.Young, aR A3 n3 c3 a1.Old]) (fun u post => u = .bool r ∧ post = []) := by
 refine bz Try.func107 rfl rfl ?_
 simp only [aQ]
 refine run ?_
 refine gR (uw (us := [.slice A2 n2 c2, .slice A3 n3 c3]) 0 rfl rfl ex rfl) ?_
 refine run ?_
 obtain ⟨y4, hy4, h⟩ := aa h
 refine gD (al (kH hy4) wv rfl (mem_cons (am (i := 1) rfl rfl) (mem_cons (am (i := 2) rfl rfl) aj)) ja) ?_
 rintro _ _ ⟨_, ⟨rfl, rfl⟩, rfl⟩
 refine run ?_
 obtain rfl := ak h
 exact aB rfl rfl (ab [] 3 rfl rfl) ⟨rfl, rfl⟩
def iB (N : Nat) (ff : Int → Option Bool) : Option Int :=
 some (-1)
def slices_IndexFunc_l3 (N : Nat) (ff : Int → Option Bool) (a0 : (List Int)) : Nat → Int → Option Int
 | 0, _ => none
 | m3 + 1, p4 => bif decide (p4 < (a0.length : Int)) then ((aH a0 p4).bind fun x6 => (ff x6).bind fun y7 => bif y7 then (some p4) else (bD (aK (p4 + 1)) ((slices_IndexFunc_l3 N ff a0 m3) (p4 + 1)))) else (iB N ff)
def fM (N : Nat) (a0 : (List Int)) (ff : Int → Option Bool) : Option Int :=
 slices_IndexFunc_l3 N ff a0 N 0
theorem mT {N : Nat} {a0 : (List Int)} {ff : Int → Option Bool} {r : Int} (h : fM N a0 ff = some r) {vf : Value} {G : List Chunk} (hf : wH Try.prog vf G (fun x => [iV x]) (fun r => .bool r) ff) : Okc Try.prog 108 [.slice A1 n1 c1, vf] (ca A1 n1 c1 a0 :: G) (fun u post => u = iV r ∧ post = []) := by
 refine bz Try.func108 rfl rfl ?_
 simp only [aQ]
 refine run ?_
 refine aL (fun s L => iB N ff = some r ∧ s = [(4, iV 0)] ∧ L = G) ?_ ?_
 ·refine run ?_
  refine gR (az 0 rfl ai rfl Try.underlying31) ?_
  refine run ?_
  refine bc (fun m s L => ∃ p4, slices_IndexFunc_l3 N ff a0 m p4 = some r ∧ s = [(0, .slice A1 n1 c1), (1, vf), (4, iV 0), (7, iV (a0.length : Int)), (8, iV p4)] ∧ L = ca A1 n1 c1 a0 :: G) N _ _ ⟨0, h, rfl, rfl⟩ sA (ab [0] 1 rfl rfl) ?_
  rintro (_ | m3) _ _ ⟨p4, h, rfl, rfl⟩
  ·exact aA h
  rw [slices_IndexFunc_l3.eq_2] at h
  refine run ?_
  refine av ?_
  refine ar rfl (fun g5 => ?_) (fun g5 => ?_)
  ·replace h := ag g5 h
   refine run ?_
   refine av ?_
   refine run ?_
   obtain ⟨x6, hx6, h⟩ := aa h
   obtain ⟨lx6, ux6, hx6⟩ := ap hx6
   refine gR (aC 0 rfl ai rfl rfl Try.underlying31 eH lx6 ux6) ?_
   refine gR (aX (u := iV x6) 0 rfl ai rfl hx6 dv (fun _ _ _ h => by rw [show _ = _ from h]; rfl)) ?_
   obtain ⟨y7, hy7, h⟩ := aa h
   refine gD (rd (a := x6) [ca A1 n1 c1 a0] hf hy7 rfl rfl) ?_
   rintro _ _ ⟨rfl, rfl⟩
   refine run ?_
   refine ar rfl (fun g8 => ?_) (fun g8 => ?_)
   ·replace h := ag g8 h
    refine run ?_
    obtain rfl := ak h
    exact aB rfl rfl (kZ [] 1 rfl rfl) ⟨rfl, rfl⟩
   replace h := ah g8 h
   refine run ?_
   obtain ⟨q9, h⟩ := ao h
   refine gE (aN rfl rfl q9.1 q9.2) ?_
   refine run ?_
   exact ⟨m3, _, _, Nat.lt_succ_self _, ⟨p4 + 1, h, rfl, rfl⟩, sA, ab [0] 1 rfl rfl⟩
  replace h := ah g5 h
  refine run ?_
  exact ⟨_, _, ⟨h, rfl, rfl⟩, sA, ab [] 1 rfl rfl⟩
 rintro _ _ ⟨h, rfl, rfl⟩
 refine run ?_
 obtain rfl := ak h
 exact aB rfl rfl (kZ [] 0 rfl rfl) ⟨rfl, rfl⟩
theorem lr {r : Int} : ∀ v post, ((fun (u : Value) (post : List Chunk) => u = iV r ∧ post = [])) v post → ∀ c ∈ post, bX c := by
 rintro _ _ ⟨rfl, rfl⟩; exact aj
def bQ (N : Nat) (a0 : (List Int)) (ff : Int → Option Bool) : Option Bool :=
 (fM N a0 ff).bind fun y2 => some (decide (0 ≤ y2))
theorem f5 {N : Nat} {a0 : (List Int)} {ff : Int → Option Bool} {r : Bool} (h : bQ N a0 ff = some r) {vf : Value} {G : List Chunk} (hf : wH Try.prog vf G (fun x => [iV x]) (fun r => .bool r) ff) : Okc Try.prog 72 [.slice A1 n1 c1, vf] (ca A1 n1 c1 a0 :: G) (fun u post => u = .bool r ∧ post = []) := by
 refine bz Try.func72 rfl rfl ?_
 simp only [aQ]
 refine run ?_
 obtain ⟨y2, hy2, h⟩ := aa h
 refine gD (al (mT hy2 hf) Bq rfl (mem_cons (am (i := 0) rfl rfl) (pq (E := [ca A1 n1 c1 a0]) hf.1)) lr) ?_
 rintro _ _ ⟨_, ⟨rfl, rfl⟩, rfl⟩
 refine run ?_
 obtain rfl := ak h
 exact aB rfl rfl (kZ [] 1 rfl rfl) ⟨rfl, rfl⟩
theorem fA {r : Bool} : ∀ v post, ((fun (u : Value) (post : List Chunk) => u = .bool r ∧ post = [])) v post → ∀ c ∈ post, bX c := by
 rintro _ _ ⟨rfl, rfl⟩; exact aj
def lV (N : Nat) : Option Bool :=
 some true
def minor_sound_l8 (N : Nat) (y6 : ((List DCell))) (a0 : DMemory) : Nat → Int → Option Bool
 | 0, _ => none
 | m8 + 1, p9 => bif decide (p9 < (y6.length : Int)) then ((aH y6 p9).bind fun x11 => (el N x11).bind fun y15 => (bif !y15 then (some true) else ((dH N x11).bind fun y17 => (bQ N y17 (fun x => gI N x a0)).bind fun y19 => some y19)).bind fun b16 => bif b16 then (some false) else (bD (aK (p9 + 1)) ((minor_sound_l8 N y6 a0 m8) (p9 + 1)))) else (lV N)
def gQ (N : Nat) (a0 : DMemory) : Option Bool :=
 (dC N a0.Young a0.Old).bind fun y6 => minor_sound_l8 N y6 a0 N 0
theorem rk {N : Nat} {a0 : DMemory} {r : Bool} (h : gQ N a0 = some r) : Okc Try.prog 71 [.agg #[.slice A1 n1 c1, .slice A2 n2 c2]] ([aR A1 n1 c1 a0.Young, aR A2 n2 c2 a0.Old]) (fun u post => u = .bool r ∧ post = []) := by
 refine bz Try.func71 rfl rfl ?_
 simp only [aQ]
 refine run ?_
 refine gD (aU rfl rfl) ?_
 rintro _ _ ⟨B3, rfl, rfl⟩
 refine run ?_
 refine aL (fun s L => lV N = some r ∧ s = [(2, .bool false)] ∧ L = []) ?_ ?_
 ·refine run ?_
  refine gD (nD (cs := [.slice A1 n1 c1, .slice A2 n2 c2]) rfl (yj _ _ _ _ _ _)) ?_
  rintro _ _ ⟨B5, rfl, rfl⟩
  obtain ⟨y6, hy6, h⟩ := aa h
  refine Ak (fZ 0 rfl) ?_
  refine gD (cg (lu hy6) Bt rfl (bO [0, 2, 3] [] [0, 1, 2, 3] 4 rfl)) ?_
  rintro _ _ ⟨_, ⟨A7, n7, c7, rfl, rfl⟩, rfl⟩
  refine gR (az 0 rfl aM rfl Try.underlying22) ?_
  refine run ?_
  refine bc (fun m s L => ∃ p9, minor_sound_l8 N y6 a0 m p9 = some r ∧ s = [(1, pV B3 0), (2, .bool false), (10, .slice A7 n7 c7), (11, iV (y6.length : Int)), (12, iV p9)] ∧ L = [f4 A7 n7 c7 y6, aR A1 n1 c1 a0.Young, aR A2 n2 c2 a0.Old, aq B3 24 [.slice A1 n1 c1, .slice A2 n2 c2]]) N _ _ ⟨0, h, rfl, rfl⟩ sA (ab [0, 3, 4, 2] 5 rfl rfl) ?_
  rintro (_ | m8) _ _ ⟨p9, h, rfl, rfl⟩
  ·exact aA h
  rw [minor_sound_l8.eq_2] at h
  refine run ?_
  refine av ?_
  refine ar rfl (fun g10 => ?_) (fun g10 => ?_)
  ·replace h := ag g10 h
   refine run ?_
   refine av ?_
   refine run ?_
   obtain ⟨x11, hx11, h⟩ := aa h
   obtain ⟨lx11, ux11, hx11⟩ := ap hx11
   refine gR (aC 0 rfl aM rfl rfl Try.underlying22 bq lx11 ux11) ?_
   refine gD (yZ 0 rfl aM rfl hx11 ba rfl (cE x11)) ?_
   rintro u _ ⟨_, _, ⟨A12, n12, c12, A13, n13, c13, rfl, rfl⟩, hu, rfl⟩
   obtain rfl : u = .agg #[iV x11.Kind, iV x11.Shape, iV x11.Flags, iV x11.Age, .slice A12 n12 c12, .slice A13 n13 c13] := hu
   refine gD (aS ed rfl) ?_
   rintro _ _ ⟨B14, rfl, rfl⟩
   refine gO (ay (us := [iV x11.Kind, iV x11.Shape, iV x11.Flags, iV x11.Age, .slice A12 n12 c12, .slice A13 n13 c13]) (cs' := [iV x11.Kind, iV x11.Shape, iV x11.Flags, iV x11.Age, .slice A12 n12 c12, .slice A13 n13 c13]) 0 rfl rfl rfl rfl bq rfl rfl rfl) ?_
   rintro _ _ rfl
   refine ck ([aq B14 42 [iV x11.Kind, iV x11.Shape, iV x11.Flags, iV x11.Age, .slice A12 n12 c12, .slice A13 n13 c13], aF A12 n12 c12 x11.Slots, aF A13 n13 c13 x11.More, f4 A7 n7 c7 y6, aR A1 n1 c1 a0.Young, aR A2 n2 c2 a0.Old, aq B3 24 [.slice A1 n1 c1, .slice A2 n2 c2]]) rfl ?_
   refine run ?_
   refine gR (aE (us := [iV x11.Kind, iV x11.Shape, iV x11.Flags, iV x11.Age, .slice A12 n12 c12, .slice A13 n13 c13]) 0 rfl rfl ba rfl) ?_
   obtain ⟨y15, hy15, h⟩ := aa h
   refine gD (al (jY hy15) wr rfl (mem_cons (am (i := 1) rfl rfl) (mem_cons (am (i := 2) rfl rfl) aj)) iw) ?_
   rintro _ _ ⟨_, ⟨rfl, rfl⟩, rfl⟩
   refine run ?_
   obtain ⟨b16, hb16, h⟩ := aa h
   refine aw 5 24 b16 ?_ ?_
   ·clear h
    refine ax 19 rfl (fun g16 => ?_) (fun g16 => ?_)
    ·have h := ag g16 hb16
     refine run ?_
     obtain rfl := ak h
     exact ad sA (ab [0, 1, 2, 3, 4, 5, 6] 7 rfl rfl)
    have h := ah g16 hb16
    refine aZ (aE (us := [iV x11.Kind, iV x11.Shape, iV x11.Flags, iV x11.Age, .slice A12 n12 c12, .slice A13 n13 c13]) 0 rfl rfl ba rfl) rfl (cO g16 rfl) rfl ?_
    obtain ⟨y17, hy17, h⟩ := aa h
    refine bM (al (jj hy17) zJ rfl (mem_cons (am (i := 1) rfl rfl) (mem_cons (am (i := 2) rfl rfl) aj)) ic) rfl (cO g16 rfl) rfl ?_
    rintro _ _ ⟨_, ⟨A18, n18, c18, rfl, rfl⟩, rfl⟩
    refine kc (eW rfl) rfl (cO g16 rfl) rfl ?_
    obtain ⟨y19, hy19, h⟩ := aa h
    refine bM (al (f5 hy19 ⟨mem_cons rfl (mem_cons rfl (mem_cons rfl aj)), 107, #[], #[pV B3 0], rfl, Br, fun _ _ hh => oC hh⟩) zK rfl (mem_cons (cC (i := 0) rfl) (mem_cons (kw (i := 7) rfl) (mem_cons (am (i := 5) rfl rfl) (mem_cons (am (i := 6) rfl rfl) aj)))) fA) rfl (cO g16 rfl) rfl ?_
    rintro _ _ ⟨_, ⟨rfl, rfl⟩, rfl⟩
    refine run ?_
    obtain rfl := ak h
    exact ad sA (ab [1, 2, 3, 4, 5, 6, 7] 8 rfl rfl)
   refine run ?_
   refine ar rfl (fun g20 => ?_) (fun g20 => ?_)
   ·replace h := ag g20 h
    refine run ?_
    obtain rfl := ak h
    exact aB rfl rfl (ab [] 7 rfl rfl) ⟨rfl, rfl⟩
   replace h := ah g20 h
   refine run ?_
   obtain ⟨q21, h⟩ := ao h
   refine gE (aN rfl rfl q21.1 q21.2) ?_
   refine run ?_
   exact ⟨m8, _, _, Nat.lt_succ_self _, ⟨p9 + 1, h, rfl, rfl⟩, sA, ab [3, 4, 5, 6] 7 rfl rfl⟩
  replace h := ah g10 h
  refine run ?_
  exact ⟨_, _, ⟨h, rfl, rfl⟩, sA, ab [] 4 rfl rfl⟩
 rintro _ _ ⟨h, rfl, rfl⟩
 refine run ?_
 obtain rfl := ak h
 exact aB rfl rfl (ab [] 0 rfl rfl) ⟨rfl, rfl⟩
theorem pk {r : Bool} : ∀ v post, ((fun (u : Value) (post : List Chunk) => u = .bool r ∧ post = [])) v post → ∀ c ∈ post, bX c := by
 rintro _ _ ⟨rfl, rfl⟩; exact aj
def cY (N : Nat) (a0 : Int) : Option Bool :=
 (bif decide (0 < a0) then (some (decide (a0.tmod 2 = 1))) else (some false)).bind fun b1 => some b1
theorem eS {N : Nat} {a0 : Int} {r : Bool} (h : cY N a0 = some r) : Okc Try.prog 39 [iV a0] ([]) (fun u post => u = .bool r ∧ post = []) := by
 refine bz Try.func39 rfl rfl ?_
 simp only [aQ]
 refine run ?_
 obtain ⟨b1, hb1, h⟩ := aa h
 refine aw 4 9 b1 ?_ ?_
 ·clear h
  refine ax 5 rfl (fun g1 => ?_) (fun g1 => ?_)
  ·have h := ag g1 hb1
   refine run ?_
   refine kc (mg rfl rfl (by decide)) rfl (aJ g1 rfl) rfl ?_
   refine run ?_
   obtain rfl := ak h
   exact ad sA (ab [] 0 rfl rfl)
  have h := ah g1 hb1
  refine run ?_
  obtain rfl := ak h
  exact ad sA (ab [] 0 rfl rfl)
 refine run ?_
 obtain rfl := ak h
 exact aB rfl rfl (ab [] 0 rfl rfl) ⟨rfl, rfl⟩
theorem fi {r : Bool} : ∀ v post, ((fun (u : Value) (post : List Chunk) => u = .bool r ∧ post = [])) v post → ∀ c ∈ post, bX c := by
 rintro _ _ ⟨rfl, rfl⟩; exact aj
def li (N : Nat) : Option Int :=
 some (-1)
def slices_Index_l3 (N : Nat) (a1 : Int) (a0 : (List Int)) : Nat → Int → Option Int
 | 0, _ => none
 | m3 + 1, p4 => bif decide (p4 < (a0.length : Int)) then ((aH a0 p4).bind fun x6 => bif decide (a1 = x6) then (some p4) else (bD (aK (p4 + 1)) ((slices_Index_l3 N a1 a0 m3) (p4 + 1)))) else (li N)
def i4 (N : Nat) (a0 : (List Int)) (a1 : Int) : Option Int :=
 slices_Index_l3 N a1 a0 N 0
theorem qe {N : Nat} {a0 : (List Int)} {a1 : Int} {r : Int} (h : i4 N a0 a1 = some r) : Okc Try.prog 78 [.slice A1 n1 c1, iV a1] ([ca A1 n1 c1 a0]) (fun u post => u = iV r ∧ post = []) := by
 refine bz Try.func78 rfl rfl ?_
 simp only [aQ]
 refine run ?_
 refine aL (fun s L => li N = some r ∧ s = [(4, iV 0)] ∧ L = []) ?_ ?_
 ·refine run ?_
  refine gR (az 0 rfl ai rfl Try.underlying31) ?_
  refine run ?_
  refine bc (fun m s L => ∃ p4, slices_Index_l3 N a1 a0 m p4 = some r ∧ s = [(0, .slice A1 n1 c1), (1, iV a1), (4, iV 0), (7, iV (a0.length : Int)), (8, iV p4)] ∧ L = [ca A1 n1 c1 a0]) N _ _ ⟨0, h, rfl, rfl⟩ sA (ab [0] 1 rfl rfl) ?_
  rintro (_ | m3) _ _ ⟨p4, h, rfl, rfl⟩
  ·exact aA h
  rw [slices_Index_l3.eq_2] at h
  refine run ?_
  refine av ?_
  refine ar rfl (fun g5 => ?_) (fun g5 => ?_)
  ·replace h := ag g5 h
   refine run ?_
   refine av ?_
   refine run ?_
   obtain ⟨x6, hx6, h⟩ := aa h
   obtain ⟨lx6, ux6, hx6⟩ := ap hx6
   refine gR (aC 0 rfl ai rfl rfl Try.underlying31 eH lx6 ux6) ?_
   refine gR (aX (u := iV x6) 0 rfl ai rfl hx6 dv (fun _ _ _ h => by rw [show _ = _ from h]; rfl)) ?_
   refine run ?_
   refine ar rfl (fun g7 => ?_) (fun g7 => ?_)
   ·replace h := ag g7 h
    refine run ?_
    obtain rfl := ak h
    exact aB rfl rfl (ab [] 1 rfl rfl) ⟨rfl, rfl⟩
   replace h := ah g7 h
   refine run ?_
   obtain ⟨q8, h⟩ := ao h
   refine gE (aN rfl rfl q8.1 q8.2) ?_
   refine run ?_
   exact ⟨m3, _, _, Nat.lt_succ_self _, ⟨p4 + 1, h, rfl, rfl⟩, sA, ab [0] 1 rfl rfl⟩
  replace h := ah g5 h
  refine run ?_
  exact ⟨_, _, ⟨h, rfl, rfl⟩, sA, ab [] 1 rfl rfl⟩
 rintro _ _ ⟨h, rfl, rfl⟩
 refine run ?_
 obtain rfl := ak h
 exact aB rfl rfl (ab [] 0 rfl rfl) ⟨rfl, rfl⟩
theorem nW {r : Int} : ∀ v post, ((fun (u : Value) (post : List Chunk) => u = iV r ∧ post = [])) v post → ∀ c ∈ post, bX c := by
 rintro _ _ ⟨rfl, rfl⟩; exact aj
def cq (N : Nat) (a0 : (List Int)) (a1 : Int) : Option Bool :=
 (i4 N a0 a1).bind fun y2 => some (decide (0 ≤ y2))
theorem ef {N : Nat} {a0 : (List Int)} {a1 : Int} {r : Bool} (h : cq N a0 a1 = some r) : Okc Try.prog 35 [.slice A1 n1 c1, iV a1] ([ca A1 n1 c1 a0]) (fun u post => u = .bool r ∧ post = []) := by
 refine bz Try.func35 rfl rfl ?_
 simp only [aQ]
 refine run ?_
 obtain ⟨y2, hy2, h⟩ := aa h
 refine gD (al (qe hy2) Cy rfl (mem_cons (am (i := 0) rfl rfl) aj) nW) ?_
 rintro _ _ ⟨_, ⟨rfl, rfl⟩, rfl⟩
 refine run ?_
 obtain rfl := ak h
 exact aB rfl rfl (ab [] 1 rfl rfl) ⟨rfl, rfl⟩
theorem dB {r : Bool} : ∀ v post, ((fun (u : Value) (post : List Chunk) => u = .bool r ∧ post = [])) v post → ∀ c ∈ post, bX c := by
 rintro _ _ ⟨rfl, rfl⟩; exact aj
def nk (N : Nat) : Option Bool :=
 some true
def minor_may_l25 (N : Nat) (a0 : DMemory) (a2 : (List Int)) : Nat → Int → Option Bool
 | 0, _ => none
 | m25 + 1, p26 => bif decide (p26 < (a0.Old.length : Int)) then ((aH a0.Old p26).bind fun x28 => (dH N x28).bind fun y33 => (bQ N y33 (fun x => cY N x)).bind fun y35 => (bif y35 then (bD (aK (2 * p26)) (bD (aK ((2 * p26) + 2)) ((cq N a2 ((2 * p26) + 2)).bind fun y39 => some (!y39)))) else (some false)).bind fun b36 => bif b36 then (some false) else (bD (aK (p26 + 1)) ((minor_may_l25 N a0 a2 m25) (p26 + 1)))) else (nk N)
def eA (N : Nat) (a2 : (List Int)) (a0 : DMemory) : Option Bool :=
 minor_may_l25 N a0 a2 N 0
def minor_may_l11 (N : Nat) (a2 : (List Int)) (a0 : DMemory) : Nat → Int → Option Bool
 | 0, _ => none
 | m11 + 1, p12 => bif decide (p12 < (a2.length : Int)) then ((aH a2 p12).bind fun x14 => (cY N x14).bind fun y15 => (bif y15 then (some true) else ((eQ N a0 x14).bind fun y17 => some (!y17))).bind fun b16 => (bif b16 then (some true) else ((bif decide (0 < p12) then (bD (aK (p12 - 1)) ((aH a2 (p12 - 1)).bind fun x21 => some (decide (x14 ≤ x21)))) else (some false)).bind fun b19 => some b19)).bind fun b18 => bif b18 then (some false) else (bD (aK (p12 + 1)) ((minor_may_l11 N a2 a0 m11) (p12 + 1)))) else (eA N a2 a0)
def ib (N : Nat) (a0 : DMemory) (a1 : (List DValue)) (a2 : (List Int)) : Option Bool :=
 (bR N a1 (fun x => gm N x a0)).bind fun y6 => (bif y6 then (some true) else ((gQ N a0).bind fun y8 => some (!y8))).bind fun b7 => bif b7 then (some false) else (minor_may_l11 N a2 a0 N 0)
theorem tz {N : Nat} {a0 : DMemory} {a1 : (List DValue)} {a2 : (List Int)} {r : Bool} (h : ib N a0 a1 a2 = some r) : Okc Try.prog 31 [.agg #[.slice A1 n1 c1, .slice A2 n2 c2], .slice A3 n3 c3, .slice A4 n4 c4] ([aR A1 n1 c1 a0.Young, aR A2 n2 c2 a0.Old, aF A3 n3 c3 a1, ca A4 n4 c4 a2]) (fun u post => u = .bool r ∧ post = []) := by
 refine bz Try.func31 rfl rfl ?_
 simp only [aQ]
 refine run ?_
 refine gD (aU rfl rfl) ?_
 rintro _ _ ⟨B5, rfl, rfl⟩
 refine run ?_
 refine gE (eW rfl) ?_
 refine run ?_
 refine av ?_
 refine run ?_
 obtain ⟨y6, hy6, h⟩ := aa h
 refine gD (al (im hy6 ⟨mem_cons rfl (mem_cons rfl (mem_cons rfl aj)), 67, #[], #[pV B5 0], rfl, CC, fun _ _ hh => ql hh⟩) CB rfl (mem_cons (am (i := 3) rfl rfl) (mem_cons (kw (i := 0) rfl) (mem_cons (am (i := 1) rfl rfl) (mem_cons (am (i := 2) rfl rfl) aj)))) gA) ?_
 rintro _ _ ⟨_, ⟨rfl, rfl⟩, rfl⟩
 refine run ?_
 obtain ⟨b7, hb7, h⟩ := aa h
 refine aw 4 20 b7 ?_ ?_
 ·clear h
  refine ax 16 rfl (fun g7 => ?_) (fun g7 => ?_)
  ·have h := ag g7 hb7
   refine run ?_
   obtain rfl := ak h
   exact ad sA (ab [0, 1, 2, 3, 4] 5 rfl rfl)
  have h := ah g7 hb7
  refine aZ (aE (us := [.slice A1 n1 c1, .slice A2 n2 c2]) 0 rfl rfl ex rfl) rfl (cO g7 rfl) rfl ?_
  obtain ⟨y8, hy8, h⟩ := aa h
  refine bM (al (rk hy8) CA rfl (mem_cons (am (i := 1) rfl rfl) (mem_cons (am (i := 2) rfl rfl) aj)) pk) rfl (cO g7 rfl) rfl ?_
  rintro _ _ ⟨_, ⟨rfl, rfl⟩, rfl⟩
  refine run ?_
  obtain rfl := ak h
  exact ad sA (ab [0, 1, 2, 3, 4] 5 rfl rfl)
 refine run ?_
 refine ar rfl (fun g9 => ?_) (fun g9 => ?_)
 ·replace h := ag g9 h
  refine run ?_
  obtain rfl := ak h
  exact aB rfl rfl (ab [] 5 rfl rfl) ⟨rfl, rfl⟩
 replace h := ah g9 h
 refine run ?_
 refine aL (fun s L => eA N a2 a0 = some r ∧ s = [(2, .slice A4 n4 c4), (3, pV B5 0), (6, .bool false)] ∧ L = [ca A4 n4 c4 a2, aR A1 n1 c1 a0.Young, aR A2 n2 c2 a0.Old, aq B5 24 [.slice A1 n1 c1, .slice A2 n2 c2]]) ?_ ?_
 ·refine run ?_
  refine gR (az 4 rfl ai rfl Try.underlying31) ?_
  refine run ?_
  refine bc (fun m s L => ∃ p12, minor_may_l11 N a2 a0 m p12 = some r ∧ s = [(2, .slice A4 n4 c4), (3, pV B5 0), (6, .bool false), (21, .slice A4 n4 c4), (22, iV (a2.length : Int)), (23, iV p12)] ∧ L = [ca A4 n4 c4 a2, aR A1 n1 c1 a0.Young, aR A2 n2 c2 a0.Old, aq B5 24 [.slice A1 n1 c1, .slice A2 n2 c2]]) N _ _ ⟨0, h, rfl, rfl⟩ sA (ab [4, 1, 2, 0] 5 rfl rfl) ?_
  rintro (_ | m11) _ _ ⟨p12, h, rfl, rfl⟩
  ·exact aA h
  rw [minor_may_l11.eq_2] at h
  refine run ?_
  refine av ?_
  refine ar rfl (fun g13 => ?_) (fun g13 => ?_)
  ·replace h := ag g13 h
   refine run ?_
   refine av ?_
   refine run ?_
   obtain ⟨x14, hx14, h⟩ := aa h
   obtain ⟨lx14, ux14, hx14⟩ := ap hx14
   refine gR (aC 0 rfl ai rfl rfl Try.underlying31 eH lx14 ux14) ?_
   refine gR (aX (u := iV x14) 0 rfl ai rfl hx14 dv (fun _ _ _ h => by rw [show _ = _ from h]; rfl)) ?_
   refine run ?_
   obtain ⟨y15, hy15, h⟩ := aa h
   refine gD (al (eS hy15) rH rfl (aj) fi) ?_
   rintro _ _ ⟨_, ⟨rfl, rfl⟩, rfl⟩
   refine run ?_
   obtain ⟨b16, hb16, h⟩ := aa h
   refine aw 5 35 b16 ?_ ?_
   ·clear h
    refine ax 30 rfl (fun g16 => ?_) (fun g16 => ?_)
    ·have h := ag g16 hb16
     refine run ?_
     obtain rfl := ak h
     exact ad sA (ab [0, 1, 2, 3] 4 rfl rfl)
    have h := ah g16 hb16
    refine aZ (aE (us := [.slice A1 n1 c1, .slice A2 n2 c2]) 3 rfl rfl ex rfl) rfl (cO g16 rfl) rfl ?_
    refine run ?_
    obtain ⟨y17, hy17, h⟩ := aa h
    refine bM (al (kH hy17) wv rfl (mem_cons (am (i := 1) rfl rfl) (mem_cons (am (i := 2) rfl rfl) aj)) ja) rfl (cO g16 rfl) rfl ?_
    rintro _ _ ⟨_, ⟨rfl, rfl⟩, rfl⟩
    refine run ?_
    obtain rfl := ak h
    exact ad sA (ab [0, 1, 2, 3] 4 rfl rfl)
   refine run ?_
   obtain ⟨b18, hb18, h⟩ := aa h
   refine aw 12 48 b18 ?_ ?_
   ·clear h
    refine ax 36 rfl (fun g18 => ?_) (fun g18 => ?_)
    ·have h := ag g18 hb18
     refine run ?_
     obtain rfl := ak h
     exact ad sA (ab [0, 1, 2, 3] 4 rfl rfl)
    have h := ah g18 hb18
    refine run ?_
    obtain ⟨b19, hb19, h⟩ := aa h
    refine aw 8 47 b19 ?_ ?_
    ·clear h
     refine ax 39 rfl (fun g19 => ?_) (fun g19 => ?_)
     ·have h := ag g19 hb19
      refine run ?_
      obtain ⟨q20, h⟩ := ao h
      refine kc (jV rfl rfl q20.1 q20.2) rfl (aJ g19 rfl) rfl ?_
      obtain ⟨x21, hx21, h⟩ := aa h
      obtain ⟨lx21, ux21, hx21⟩ := ap hx21
      refine aZ (aC 0 rfl ai rfl rfl Try.underlying31 eH lx21 ux21) rfl (aJ g19 rfl) rfl ?_
      refine aZ (aX (u := iV x21) 0 rfl ai rfl hx21 dv (fun _ _ _ h => by rw [show _ = _ from h]; rfl)) rfl (aJ g19 rfl) rfl ?_
      refine run ?_
      obtain rfl := ak h
      exact ad sA (ab [0, 1, 2, 3] 4 rfl rfl)
     have h := ah g19 hb19
     refine run ?_
     obtain rfl := ak h
     exact ad sA (ab [0, 1, 2, 3] 4 rfl rfl)
    refine run ?_
    obtain rfl := ak h
    exact ad sA (ab [0, 1, 2, 3] 4 rfl rfl)
   refine run ?_
   refine ar rfl (fun g22 => ?_) (fun g22 => ?_)
   ·replace h := ag g22 h
    refine run ?_
    obtain rfl := ak h
    exact aB rfl rfl (ab [] 4 rfl rfl) ⟨rfl, rfl⟩
   replace h := ah g22 h
   refine run ?_
   obtain ⟨q23, h⟩ := ao h
   refine gE (aN rfl rfl q23.1 q23.2) ?_
   refine run ?_
   exact ⟨m11, _, _, Nat.lt_succ_self _, ⟨p12 + 1, h, rfl, rfl⟩, sA, ab [0, 1, 2, 3] 4 rfl rfl⟩
  replace h := ah g13 h
  refine run ?_
  exact ⟨_, _, ⟨h, rfl, rfl⟩, sA, ab [0, 1, 2, 3] 4 rfl rfl⟩
 rintro _ _ ⟨h, rfl, rfl⟩
 refine aL (fun s L => nk N = some r ∧ s = [(6, .bool false)] ∧ L = []) ?_ ?_
 ·refine run ?_
  refine gR (az 2 rfl ai rfl Try.underlying22) ?_
  refine run ?_
  refine bc (fun m s L => ∃ p26, minor_may_l25 N a0 a2 m p26 = some r ∧ s = [(2, .slice A4 n4 c4), (6, .bool false), (51, .slice A2 n2 c2), (52, iV (a0.Old.length : Int)), (53, iV p26)] ∧ L = [ca A4 n4 c4 a2, aR A2 n2 c2 a0.Old]) N _ _ ⟨0, h, rfl, rfl⟩ sA (ab [0, 2] 4 rfl rfl) ?_
  rintro (_ | m25) _ _ ⟨p26, h, rfl, rfl⟩
  ·exact aA h
  rw [minor_may_l25.eq_2] at h
  refine run ?_
  refine av ?_
  refine ar rfl (fun g27 => ?_) (fun g27 => ?_)
  ·replace h := ag g27 h
   refine run ?_
   refine av ?_
   refine run ?_
   obtain ⟨x28, hx28, h⟩ := aa h
   obtain ⟨lx28, ux28, hx28⟩ := ap hx28
   refine gR (aC 1 rfl ai rfl rfl Try.underlying22 bq lx28 ux28) ?_
   refine rM 1 rfl hx28 (cE x28) ?_
   rintro _ _ ⟨A29, n29, c29, A30, n30, c30, rfl, rfl⟩
   refine gR (gc (us := [iV x28.Kind, iV x28.Shape, iV x28.Flags, iV x28.Age, .slice A29 n29 c29, .slice A30 n30 c30]) 0 rfl rfl ba rfl) ?_
   refine gD (aS ed rfl) ?_
   rintro _ _ ⟨B32, rfl, rfl⟩
   refine run ?_
   refine gO (ay (us := [iV x28.Kind, iV x28.Shape, iV x28.Flags, iV x28.Age, .slice A29 n29 c29, .slice A30 n30 c30]) (cs' := [iV x28.Kind, iV x28.Shape, iV x28.Flags, iV x28.Age, .slice A29 n29 c29, .slice A30 n30 c30]) 0 rfl rfl rfl rfl bq rfl rfl rfl) ?_
   rintro _ _ rfl
   refine run ?_
   refine gR (aE (us := [iV x28.Kind, iV x28.Shape, iV x28.Flags, iV x28.Age, .slice A29 n29 c29, .slice A30 n30 c30]) 0 rfl rfl ba rfl) ?_
   obtain ⟨y33, hy33, h⟩ := aa h
   refine gD (al (jj hy33) zJ rfl (mem_cons (am (i := 2) rfl rfl) (mem_cons (am (i := 3) rfl rfl) aj)) ic) ?_
   rintro _ _ ⟨_, ⟨A34, n34, c34, rfl, rfl⟩, rfl⟩
   obtain ⟨y35, hy35, h⟩ := aa h
   refine gD (al (f5 hy35 ⟨aj, 39, #[], #[], rfl, rH, fun _ _ hh => eS hh⟩) zK rfl (mem_cons (cC (i := 0) rfl) aj) fA) ?_
   rintro _ _ ⟨_, ⟨rfl, rfl⟩, rfl⟩
   refine run ?_
   obtain ⟨b36, hb36, h⟩ := aa h
   refine aw 7 68 b36 ?_ ?_
   ·clear h
    refine ax 61 rfl (fun g36 => ?_) (fun g36 => ?_)
    ·have h := ag g36 hb36
     refine run ?_
     obtain ⟨q37, h⟩ := ao h
     refine kc (pz rfl rfl q37.1 q37.2) rfl (aJ g36 rfl) rfl ?_
     obtain ⟨q38, h⟩ := ao h
     refine kc (aN rfl rfl q38.1 q38.2) rfl (aJ g36 rfl) rfl ?_
     obtain ⟨y39, hy39, h⟩ := aa h
     refine bM (al (ef hy39) tU rfl (mem_cons (am (i := 5) rfl rfl) aj) dB) rfl (aJ g36 rfl) rfl ?_
     rintro _ _ ⟨_, ⟨rfl, rfl⟩, rfl⟩
     refine run ?_
     obtain rfl := ak h
     exact ad sA (ab [0, 1, 2, 3, 4, 5, 6] 7 rfl rfl)
    have h := ah g36 hb36
    refine run ?_
    obtain rfl := ak h
    exact ad sA (ab [0, 1, 2, 3, 4, 5, 6] 7 rfl rfl)
   refine run ?_
   refine ar rfl (fun g40 => ?_) (fun g40 => ?_)
   ·replace h := ag g40 h
    refine run ?_
    obtain rfl := ak h
    exact aB rfl rfl (ab [] 7 rfl rfl) ⟨rfl, rfl⟩
   replace h := ah g40 h
   refine run ?_
   obtain ⟨q41, h⟩ := ao h
   refine gE (aN rfl rfl q41.1 q41.2) ?_
   refine run ?_
   exact ⟨m25, _, _, Nat.lt_succ_self _, ⟨p26 + 1, h, rfl, rfl⟩, sA, ab [5, 6] 7 rfl rfl⟩
  replace h := ah g27 h
  refine run ?_
  exact ⟨_, _, ⟨h, rfl, rfl⟩, sA, ab [] 2 rfl rfl⟩
 rintro _ _ ⟨h, rfl, rfl⟩
 refine run ?_
 obtain rfl := ak h
 exact aB rfl rfl (ab [] 0 rfl rfl) ⟨rfl, rfl⟩
theorem rl {r : Bool} : ∀ v post, ((fun (u : Value) (post : List Chunk) => u = .bool r ∧ post = [])) v post → ∀ c ∈ post, bX c := by
 rintro _ _ ⟨rfl, rfl⟩; exact aj
def br (N : Nat) (a0 : DMeeter) (a1 : Int) : Option DMeeter :=
 (cY N a1).bind fun y7 => (bif y7 then (some (!((lk a0.seen_ a1).getD false))) else (some false)).bind fun b8 => bif b8 then (bD (cu (a0.met_.length + ([a1] : List Int).length)) (some (⟨a0.m_, a0.kept_, a0.met_ ++ ([a1] : List Int), se a0.seen_ a1 true, a0.next_⟩ : DMeeter))) else (some a0)
theorem dG {N : Nat} {a0 : DMeeter} {a1 : Int} {r : DMeeter} (h : br N a0 a1 = some r) : Okc Try.prog 74 [pV B1 0, iV a1] ([aR A2 n2 c2 a0.m_.Young, aR A3 n3 c3 a0.m_.Old, ca A4 n4 c4 a0.kept_, aq B1 61 [.slice A2 n2 c2, .slice A3 n3 c3, .slice A4 n4 c4, .slice A5 n5 c5, .map (some M6), iV a0.next_], bN A5 n5 c5 a0.met_, bw dT eM M6 a0.seen_]) (fun u post => ∃ A0 n0 c0 A1 n1 c1 A2 n2 c2 A3 n3 c3 M4, u = .tuple #[] ∧ post = [aq B1 61 [.slice A0 n0 c0, .slice A1 n1 c1, .slice A2 n2 c2, .slice A3 n3 c3, .map (some M4), iV r.next_], aR A0 n0 c0 r.m_.Young, aR A1 n1 c1 r.m_.Old, ca A2 n2 c2 r.kept_, bN A3 n3 c3 r.met_, bw dT eM M4 r.seen_]) := by
 refine bz Try.func74 rfl rfl ?_
 simp only [aQ]
 refine run ?_
 obtain ⟨y7, hy7, h⟩ := aa h
 refine gD (al (eS hy7) rH rfl (aj) fi) ?_
 rintro _ _ ⟨_, ⟨rfl, rfl⟩, rfl⟩
 refine run ?_
 obtain ⟨b8, hb8, h⟩ := aa h
 refine aw 8 14 b8 ?_ ?_
 ·clear h
  refine ax 6 rfl (fun g8 => ?_) (fun g8 => ?_)
  ·have h := ag g8 hb8
   refine run ?_
   refine aZ (qV (a := a1) (z := false) 5 rfl po rfl rfl Try.underlying59 (eC Try.underlying3) uh) rfl (aJ g8 rfl) rfl ?_
   refine run ?_
   obtain rfl := ak h
   exact ad sA (ab [0, 1, 2, 3, 4, 5] 6 rfl rfl)
  have h := ah g8 hb8
  refine run ?_
  obtain rfl := ak h
  exact ad sA (ab [0, 1, 2, 3, 4, 5] 6 rfl rfl)
 refine run ?_
 refine ar rfl (fun g9 => ?_) (fun g9 => ?_)
 ·replace h := ag g9 h
  refine run ?_
  refine gO (iM (a := a1) (b := true) 5 rfl rfl rfl rfl Try.underlying59 (eC Try.underlying3)) ?_
  rintro _ _ rfl
  refine run ?_
  refine gD (bB (R := (ge .i64)) (vss := [[iV a1]]) (xs := [a1]) rfl (fa _) rfl rfl (fun _ _ hr => .cons rfl All2.nil)) ?_
  rintro _ _ ⟨A10, n10, c10, rfl, rfl⟩
  obtain ⟨q11, h⟩ := ao h
  refine gD (bm 5 0 rfl rfl aM rfl rfl Try.underlying31 ui rfl rfl q11) ?_
  rintro _ _ ⟨A12, n12, c12, rfl, rfl⟩
  refine run ?_
  refine gO (ay (us := [.slice A12 n12 c12]) (cs' := [.slice A2 n2 c2, .slice A3 n3 c3, .slice A4 n4 c4, .slice A12 n12 c12, .map (some M6), iV a0.next_]) 4 rfl rfl rfl rfl nv rfl rfl rfl) ?_
  rintro _ _ rfl
  refine ck ([bN A10 n10 c10 ([a1] : List Int), aR A2 n2 c2 a0.m_.Young, aR A3 n3 c3 a0.m_.Old, ca A4 n4 c4 a0.kept_, aq B1 61 [.slice A2 n2 c2, .slice A3 n3 c3, .slice A4 n4 c4, .slice A12 n12 c12, .map (some M6), iV a0.next_], bN A12 n12 c12 (a0.met_ ++ ([a1] : List Int)), bw dT eM M6 (se a0.seen_ a1 true)]) rfl ?_
  refine o3 ?_
  obtain rfl := ak h
  exact nJ rfl (ab [4, 1, 2, 3, 5, 6] 7 rfl rfl) ⟨_, _, _, _, _, _, _, _, _, _, _, _, _, rfl, rfl⟩
 replace h := ah g9 h
 refine wG ?_
 obtain rfl := ak h
 exact nJ rfl (ab [3, 0, 1, 2, 4, 5] 6 rfl rfl) ⟨_, _, _, _, _, _, _, _, _, _, _, _, _, rfl, rfl⟩
def be (N : Nat) (a0 : DMeeter) (a1 : Int) : Option DCell :=
 (cY N a1).bind fun y8 => bif y8 then (bD (aK (a1.tdiv 2)) ((aH a0.m_.Young (a1.tdiv 2)).bind fun x11 => some x11)) else (bD (aK (a1.tdiv 2)) (bD (aK ((a1.tdiv 2) - 1)) ((aH a0.m_.Old ((a1.tdiv 2) - 1)).bind fun x17 => some x17)))
theorem cJ {N : Nat} {a0 : DMeeter} {a1 : Int} {r : DCell} (h : be N a0 a1 = some r) : Okc Try.prog 38 [pV B1 0, iV a1] ([aR A2 n2 c2 a0.m_.Young, aR A3 n3 c3 a0.m_.Old, ca A4 n4 c4 a0.kept_, aq B1 61 [.slice A2 n2 c2, .slice A3 n3 c3, .slice A4 n4 c4, .slice A5 n5 c5, .map (some M6), iV a0.next_], bN A5 n5 c5 a0.met_, bw dT eM M6 a0.seen_]) (fun u post => ∃ A0 n0 c0 A1 n1 c1, u = .agg #[iV r.Kind, iV r.Shape, iV r.Flags, iV r.Age, .slice A0 n0 c0, .slice A1 n1 c1] ∧ post = [aF A0 n0 c0 r.Slots, aF A1 n1 c1 r.More, aq B1 61 [.slice A2 n2 c2, .slice A3 n3 c3, .slice A4 n4 c4, .slice A5 n5 c5, .map (some M6), iV a0.next_], bN A5 n5 c5 a0.met_, bw dT eM M6 a0.seen_]) := by
 refine bz Try.func38 rfl rfl ?_
 simp only [aQ]
 refine run ?_
 refine gD (aS ed rfl) ?_
 rintro _ _ ⟨B7, rfl, rfl⟩
 refine run ?_
 refine av ?_
 refine run ?_
 obtain ⟨y8, hy8, h⟩ := aa h
 refine gD (al (eS hy8) rH rfl (aj) fi) ?_
 rintro _ _ ⟨_, ⟨rfl, rfl⟩, rfl⟩
 refine run ?_
 refine ar rfl (fun g9 => ?_) (fun g9 => ?_)
 ·replace h := ag g9 h
  refine run ?_
  obtain ⟨q10, h⟩ := ao h
  refine gE (py rfl rfl (by decide) q10.1 q10.2) ?_
  obtain ⟨x11, hx11, h⟩ := aa h
  obtain ⟨lx11, ux11, hx11⟩ := ap hx11
  refine gR (aC 1 rfl ai rfl rfl Try.underlying22 bq lx11 ux11) ?_
  refine rM 1 rfl hx11 (cE x11) ?_
  rintro _ _ ⟨A12, n12, c12, A13, n13, c13, rfl, rfl⟩
  refine gR (gc (us := [iV x11.Kind, iV x11.Shape, iV x11.Flags, iV x11.Age, .slice A12 n12 c12, .slice A13 n13 c13]) 0 rfl rfl ba rfl) ?_
  refine gO (ay (us := [iV x11.Kind, iV x11.Shape, iV x11.Flags, iV x11.Age, .slice A12 n12 c12, .slice A13 n13 c13]) (cs' := [iV x11.Kind, iV x11.Shape, iV x11.Flags, iV x11.Age, .slice A12 n12 c12, .slice A13 n13 c13]) 3 rfl rfl rfl rfl bq rfl rfl rfl) ?_
  rintro _ _ rfl
  refine run ?_
  obtain rfl := ak h
  exact eX (rs := [.cell 4 42]) (vs := [.agg #[iV x11.Kind, iV x11.Shape, iV x11.Flags, iV x11.Age, .slice A12 n12 c12, .slice A13 n13 c13]]) rfl (.cons (dD 3 rfl rfl ba) .nil) rfl (ab [1, 2, 7, 8, 9] 10 rfl rfl) ⟨_, _, _, _, _, _, rfl, rfl⟩
 replace h := ah g9 h
 refine run ?_
 obtain ⟨q15, h⟩ := ao h
 refine gE (py rfl rfl (by decide) q15.1 q15.2) ?_
 obtain ⟨q16, h⟩ := ao h
 refine gE (jV rfl rfl q16.1 q16.2) ?_
 obtain ⟨x17, hx17, h⟩ := aa h
 obtain ⟨lx17, ux17, hx17⟩ := ap hx17
 refine gR (aC 2 rfl ai rfl rfl Try.underlying22 bq lx17 ux17) ?_
 refine rM 2 rfl hx17 (cE x17) ?_
 rintro _ _ ⟨A18, n18, c18, A19, n19, c19, rfl, rfl⟩
 refine gR (gc (us := [iV x17.Kind, iV x17.Shape, iV x17.Flags, iV x17.Age, .slice A18 n18 c18, .slice A19 n19 c19]) 0 rfl rfl ba rfl) ?_
 refine gO (ay (us := [iV x17.Kind, iV x17.Shape, iV x17.Flags, iV x17.Age, .slice A18 n18 c18, .slice A19 n19 c19]) (cs' := [iV x17.Kind, iV x17.Shape, iV x17.Flags, iV x17.Age, .slice A18 n18 c18, .slice A19 n19 c19]) 3 rfl rfl rfl rfl bq rfl rfl rfl) ?_
 rintro _ _ rfl
 refine run ?_
 obtain rfl := ak h
 exact eX (rs := [.cell 4 42]) (vs := [.agg #[iV x17.Kind, iV x17.Shape, iV x17.Flags, iV x17.Age, .slice A18 n18 c18, .slice A19 n19 c19]]) rfl (.cons (dD 3 rfl rfl ba) .nil) rfl (ab [1, 2, 7, 8, 9] 10 rfl rfl) ⟨_, _, _, _, _, _, rfl, rfl⟩
def cG (N : Nat) (kb7 : (List DCell) → (List DCell) → (List Int) → (List Int) → (List (Int × Bool)) → Int → Option DMeeter) (p16 : (List DCell)) (p17 : (List DCell)) (p18 : (List Int)) (p19 : (List Int)) (p20 : (List (Int × Bool))) (p21 : Int) : Option DMeeter :=
 bD (aK (p21 + 1)) (kb7 p16 p17 p18 p19 p20 (p21 + 1))
def minor_meeter_through_l31 (N : Nat) (kb7 : (List DCell) → (List DCell) → (List Int) → (List Int) → (List (Int × Bool)) → Int → Option DMeeter) (y28 : ((List Int))) : Nat → Int → (List DCell) → (List DCell) → (List Int) → (List Int) → (List (Int × Bool)) → Int → Option DMeeter
 | 0, _, _, _, _, _, _, _ => none
 | m31 + 1, p32, p33, p34, p35, p36, p37, p38 => bif decide (p32 < (y28.length : Int)) then ((aH y28 p32).bind fun x40 => (br N (⟨(⟨p33, p34⟩ : DMemory), p35, p36, p37, p38⟩ : DMeeter) x40).bind fun y41 => bD (aK (p32 + 1)) ((minor_meeter_through_l31 N kb7 y28 m31) (p32 + 1) y41.m_.Young y41.m_.Old y41.kept_ y41.met_ y41.seen_ y41.next_)) else (cG N kb7 p33 p34 p35 p36 p37 p38)
def minor_meeter_through_l7 (N : Nat) : Nat → (List DCell) → (List DCell) → (List Int) → (List Int) → (List (Int × Bool)) → Int → Option DMeeter
 | 0, _, _, _, _, _, _ => none
 | m7 + 1, p8, p9, p10, p11, p12, p13 => bif decide (p13 < (p11.length : Int)) then ((aH p11 p13).bind fun x22 => (be N (⟨(⟨p8, p9⟩ : DMemory), p10, p11, p12, p13⟩ : DMeeter) x22).bind fun y23 => (eo N y23).bind fun y28 => minor_meeter_through_l31 N (minor_meeter_through_l7 N m7) y28 N 0 p8 p9 p10 p11 p12 p13) else (some (⟨(⟨p8, p9⟩ : DMemory), p10, p11, p12, p13⟩ : DMeeter))
def cr (N : Nat) (a0 : DMeeter) : Option DMeeter :=
 minor_meeter_through_l7 N N a0.m_.Young a0.m_.Old a0.kept_ a0.met_ a0.seen_ a0.next_
theorem fX {N : Nat} {a0 : DMeeter} {r : DMeeter} (h : cr N a0 = some r) : Okc Try.prog 76 [pV B1 0] ([aR A2 n2 c2 a0.m_.Young, aR A3 n3 c3 a0.m_.Old, ca A4 n4 c4 a0.kept_, aq B1 61 [.slice A2 n2 c2, .slice A3 n3 c3, .slice A4 n4 c4, .slice A5 n5 c5, .map (some M6), iV a0.next_], bN A5 n5 c5 a0.met_, bw dT eM M6 a0.seen_]) (fun u post => ∃ A0 n0 c0 A1 n1 c1 A2 n2 c2 A3 n3 c3 M4, u = .tuple #[] ∧ post = [aq B1 61 [.slice A0 n0 c0, .slice A1 n1 c1, .slice A2 n2 c2, .slice A3 n3 c3, .map (some M4), iV r.next_], aR A0 n0 c0 r.m_.Young, aR A1 n1 c1 r.m_.Old, ca A2 n2 c2 r.kept_, bN A3 n3 c3 r.met_, bw dT eM M4 r.seen_]) := by
 refine bz Try.func76 rfl rfl ?_
 simp only [aQ]
 refine ep ?_
 refine bc (fun m s L => ∃ p8 p9 p10 p11 p12 p13 A8 n8 c8 A9 n9 c9 A10 n10 c10 A11 n11 c11 M12, minor_meeter_through_l7 N m p8 p9 p10 p11 p12 p13 = some r ∧ s = [(0, pV B1 0)] ∧ L = [aR A8 n8 c8 p8, aR A9 n9 c9 p9, ca A10 n10 c10 p10, bN A11 n11 c11 p11, bw dT eM M12 p12, aq B1 61 [.slice A8 n8 c8, .slice A9 n9 c9, .slice A10 n10 c10, .slice A11 n11 c11, .map (some M12), iV p13]]) N _ _ ⟨a0.m_.Young, a0.m_.Old, a0.kept_, a0.met_, a0.seen_, a0.next_, A2, n2, c2, A3, n3, c3, A4, n4, c4, A5, n5, c5, M6, h, rfl, rfl⟩ sA (ab [0, 1, 2, 4, 5, 3] 6 rfl rfl) ?_
 rintro (_ | m7) _ _ ⟨p8, p9, p10, p11, p12, p13, A8, n8, c8, A9, n9, c9, A10, n10, c10, A11, n11, c11, M12, h, rfl, rfl⟩
 ·exact aA h
 rw [minor_meeter_through_l7.eq_2] at h
 refine av ?_
 refine av ?_
 refine dY (by kernel_rfl) _ (ac _) ?_
 refine aW 0 rfl (by kernel_rfl) (aI rfl) rfl rfl ?_
 refine aW 1 rfl (by kernel_rfl) (cx rfl) rfl rfl ?_
 refine aW 2 rfl (by kernel_rfl) (cK rfl tM) rfl rfl ?_
 refine bL 3 rfl (by kernel_rfl) (bd 5 rfl rfl dv rfl) rfl rfl ?_
 refine aW 4 rfl (by kernel_rfl) (aI rfl) rfl rfl ?_
 refine aW 5 rfl (by kernel_rfl) (cx rfl) rfl rfl ?_
 refine aW 6 rfl (by kernel_rfl) (cK rfl jJ) rfl rfl ?_
 refine bL 7 rfl (by kernel_rfl) (bd 5 rfl rfl iD rfl) rfl rfl ?_
 refine bL 8 rfl (by kernel_rfl) (az 3 rfl aM rfl Try.underlying31) rfl rfl ?_
 refine aW 9 rfl (by kernel_rfl) (BQ rfl rfl) rfl rfl ?_
 refine dX (by kernel_rfl) ?_
 refine kO ?_
 refine ar rfl (fun g14 => ?_) (fun g14 => ?_)
 ·replace h := ag g14 h
  refine run ?_
  refine aL (fun s L => ∃ p16 p17 p18 p19 p20 p21 A16 n16 c16 A17 n17 c17 A18 n18 c18 A19 n19 c19 M20, cG N (minor_meeter_through_l7 N m7) p16 p17 p18 p19 p20 p21 = some r ∧ s = [(0, pV B1 0)] ∧ L = [aR A16 n16 c16 p16, aR A17 n17 c17 p17, ca A18 n18 c18 p18, bN A19 n19 c19 p19, bw dT eM M20 p20, aq B1 61 [.slice A16 n16 c16, .slice A17 n17 c17, .slice A18 n18 c18, .slice A19 n19 c19, .map (some M20), iV p21]]) ?_ ?_
  ·refine ep ?_
   refine av ?_
   obtain ⟨x22, hx22, h⟩ := aa h
   obtain ⟨lx22, ux22, hx22⟩ := ap hx22
   obtain ⟨y23, hy23, h⟩ := aa h
   obtain ⟨y28, hy28, h⟩ := aa h
   refine fb (t := [(0, pV B1 0)]) ?_ gX (ac _)
   refine fo (by kernel_rfl) 15 [] [12, 13, 14] [21, 22, 23, 24, 25, 26, 27, 28, 29, 30, 31, 32, 33, 34, 35] [[], [], [1], [2], [3], [], [5], [6], [7], [4, 8], [9], [0, 10], [11], [12], []] [aV (pV B1 0),
 aV (pV B1 0),
 aV (pV B1 0),
 aV (pV B1 3),
 aV (.slice A11 n11 c11),
 aV (pV B1 0),
 aV (pV B1 0),
 aV (pV B1 5),
 aV (iV p13),
 aV (bK (.slice A11 n11 c11) p13.toNat 1 0),
 aV (iV x22),
 aX6 (fun (A26 : Option Addr) (n26 c26 : Nat) (A27 : Option Addr) (n27 c27 : Nat) => .agg #[iV y23.Kind, iV y23.Shape, iV y23.Flags, iV y23.Age, .slice A26 n26 c26, .slice A27 n27 c27]) (fun A26 n26 c26 A27 n27 c27 => [aF A26 n26 c26 y23.Slots, aF A27 n27 c27 y23.More]),
 aX3 (fun (A30 : Option Addr) (n30 c30 : Nat) => .slice A30 n30 c30) (fun A30 n30 c30 => [bN A30 n30 c30 y28]),
 aV (iV (y28.length : Int)),
 aV (iV 0)] [] (ac _) (gH) (by kernel_rfl) rfl rfl ?_ ?_ ?_
   ·exact gG
   ·refine ae rfl ?_ ?_
    ·exact bj (aI rfl) rfl (aD rfl (ac _))
    refine ae rfl ?_ ?_
    ·intro A30 n30 c30
     exact bW (az 0 rfl aM rfl Try.underlying31) rfl (aD rfl (ac _))
    refine ae rfl ?_ ?_
    ·intro A26 n26 c26 A27 n27 c27
     refine jy (al (ka hy28) wu rfl (mem_cons (am (i := 0) rfl rfl) (mem_cons (am (i := 1) rfl rfl) aj)) iz) rfl ?_
     rintro _ _ ⟨_, ⟨A29, n29, c29, rfl, rfl⟩, rfl⟩
     exact ig A29 n29 c29 (ac _)
    refine ae rfl ?_ ?_
    ·refine jy (cg (cJ hy23) rI rfl (bO [0, 1, 2] [5, 3, 4] [0, 1, 2] 6 rfl)) rfl ?_
     rintro _ _ ⟨_, ⟨A24, n24, c24, A25, n25, c25, rfl, rfl⟩, rfl⟩
     exact zA A24 n24 c24 A25 n25 c25 (ab [0, 1, 5, 6, 7, 3, 4, 2] 8 rfl rfl)
    refine ae rfl ?_ ?_
    ·exact bW (aX (u := iV x22) 3 rfl aM rfl hx22 dv (fun _ _ _ h => by rw [show _ = _ from h]; rfl)) rfl (aD rfl (ac _))
    refine ae rfl ?_ ?_
    ·exact bW (aC 3 rfl aM rfl rfl Try.underlying31 eH lx22 ux22) rfl (aD rfl (ac _))
    refine ae rfl ?_ ?_
    ·exact bW (bd 5 rfl rfl dv rfl) rfl (aD rfl (ac _))
    refine ae rfl ?_ ?_
    ·exact bj (cK rfl tM) rfl (aD rfl (ac _))
    refine ae rfl ?_ ?_
    ·exact bj (cx rfl) rfl (aD rfl (ac _))
    refine ae rfl ?_ ?_
    ·exact bj (aI rfl) rfl (aD rfl (ac _))
    refine ae rfl ?_ ?_
    ·exact bW (bd 5 rfl rfl iD rfl) rfl (aD rfl (ac _))
    refine ae rfl ?_ ?_
    ·exact bj (cK rfl jJ) rfl (aD rfl (ac _))
    refine ae rfl ?_ ?_
    ·exact bj (cx rfl) rfl (aD rfl (ac _))
    refine ae rfl ?_ ?_
    ·exact bj (aI rfl) rfl (aD rfl (ac _))
    refine ae rfl ?_ ?_
    ·exact bj (aI rfl) rfl (aD rfl (ac _))
    exact db
   intro A30 n30 c30
   refine jN (t := [(33, .slice A30 n30 c30), (34, iV (y28.length : Int)), (35, iV 0), (0, pV B1 0)]) (L' := [bN A30 n30 c30 y28, aR A8 n8 c8 p8, aR A9 n9 c9 p9, ca A10 n10 c10 p10, bN A11 n11 c11 p11, bw dT eM M12 p12, aq B1 61 [.slice A8 n8 c8, .slice A9 n9 c9, .slice A10 n10 c10, .slice A11 n11 c11, .map (some M12), iV p13]]) ?_ gX (ac _)
   refine gM (by kernel_rfl) ?_
   refine run ?_
   refine bc (fun m s L => ∃ p32 p33 p34 p35 p36 p37 p38 A33 n33 c33 A34 n34 c34 A35 n35 c35 A36 n36 c36 M37, minor_meeter_through_l31 N (minor_meeter_through_l7 N m7) y28 m p32 p33 p34 p35 p36 p37 p38 = some r ∧ s = [(0, pV B1 0), (33, .slice A30 n30 c30), (34, iV (y28.length : Int)), (35, iV p32)] ∧ L = [bN A30 n30 c30 y28, aR A33 n33 c33 p33, aR A34 n34 c34 p34, ca A35 n35 c35 p35, bN A36 n36 c36 p36, bw dT eM M37 p37, aq B1 61 [.slice A33 n33 c33, .slice A34 n34 c34, .slice A35 n35 c35, .slice A36 n36 c36, .map (some M37), iV p38]]) N _ _ ⟨0, p8, p9, p10, p11, p12, p13, A8, n8, c8, A9, n9, c9, A10, n10, c10, A11, n11, c11, M12, h, rfl, rfl⟩ sA (ab [0, 1, 2, 3, 4, 5, 6] 7 rfl rfl) ?_
   rintro (_ | m31) _ _ ⟨p32, p33, p34, p35, p36, p37, p38, A33, n33, c33, A34, n34, c34, A35, n35, c35, A36, n36, c36, M37, h, rfl, rfl⟩
   ·exact aA h
   rw [minor_meeter_through_l31.eq_2] at h
   refine run ?_
   refine av ?_
   refine ar rfl (fun g39 => ?_) (fun g39 => ?_)
   ·replace h := ag g39 h
    refine run ?_
    refine av ?_
    refine run ?_
    obtain ⟨x40, hx40, h⟩ := aa h
    obtain ⟨lx40, ux40, hx40⟩ := ap hx40
    refine gR (aC 0 rfl aM rfl rfl Try.underlying31 eH lx40 ux40) ?_
    refine gR (aX (u := iV x40) 0 rfl aM rfl hx40 dv (fun _ _ _ h => by rw [show _ = _ from h]; rfl)) ?_
    refine run ?_
    obtain ⟨y41, hy41, h⟩ := aa h
    refine gD (cg (dG hy41) tT rfl (bO [1, 2, 3] [6, 4, 5] [0, 1, 2, 3] 7 rfl)) ?_
    rintro _ _ ⟨_, ⟨A42, n42, c42, A43, n43, c43, A44, n44, c44, A45, n45, c45, M46, rfl, rfl⟩, rfl⟩
    refine run ?_
    obtain ⟨q47, h⟩ := ao h
    refine gE (aN rfl rfl q47.1 q47.2) ?_
    refine run ?_
    exact ⟨m31, _, _, Nat.lt_succ_self _, ⟨p32 + 1, y41.m_.Young, y41.m_.Old, y41.kept_, y41.met_, y41.seen_, y41.next_, A42, n42, c42, A43, n43, c43, A44, n44, c44, A45, n45, c45, M46, h, rfl, rfl⟩, sA, ab [6, 1, 2, 3, 4, 5, 0] 10 rfl rfl⟩
   replace h := ah g39 h
   refine run ?_
   exact ⟨_, _, ⟨p33, p34, p35, p36, p37, p38, A33, n33, c33, A34, n34, c34, A35, n35, c35, A36, n36, c36, M37, h, rfl, rfl⟩, sA, ab [1, 2, 3, 4, 5, 6] 7 rfl rfl⟩
  rintro _ _ ⟨p16, p17, p18, p19, p20, p21, A16, n16, c16, A17, n17, c17, A18, n18, c18, A19, n19, c19, M20, h, rfl, rfl⟩
  refine run ?_
  obtain ⟨q48, h⟩ := ao h
  refine gE (aN rfl rfl q48.1 q48.2) ?_
  refine run ?_
  refine gO (ay (us := [iV (p21 + 1)]) (cs' := [.slice A16 n16 c16, .slice A17 n17 c17, .slice A18 n18 c18, .slice A19 n19 c19, .map (some M20), iV (p21 + 1)]) 5 rfl rfl rfl rfl eH rfl rfl rfl) ?_
  rintro _ _ rfl
  refine run ?_
  exact ⟨m7, _, _, Nat.lt_succ_self _, ⟨p16, p17, p18, p19, p20, p21 + 1, A16, n16, c16, A17, n17, c17, A18, n18, c18, A19, n19, c19, M20, h, rfl, rfl⟩, sA, ab [0, 1, 2, 3, 4, 5] 6 rfl rfl⟩
 replace h := ah g14 h
 refine run ?_
 obtain rfl := ak h
 exact nJ rfl (ab [5, 0, 1, 2, 3, 4] 6 rfl rfl) ⟨_, _, _, _, _, _, _, _, _, _, _, _, _, rfl, rfl⟩
def eU (N : Nat) (a0 : DMeeter) (p8 : (List Int)) : Option (List Int) :=
 bD (cu (p8.length + a0.met_.length)) (some (p8 ++ a0.met_))
def minor_meeter_live_l9 (N : Nat) (a0 : DMeeter) : Nat → (List Int) → Int → Option (List Int)
 | 0, _, _ => none
 | m9 + 1, p10, p11 => bif decide (p11 < (a0.m_.Old.length : Int)) then (bD (aK (2 * p11)) (bD (aK ((2 * p11) + 2)) (bD (cu (p10.length + ([(2 * p11) + 2] : List Int).length)) (bD (aK (p11 + 1)) ((minor_meeter_live_l9 N a0 m9) (p10 ++ ([(2 * p11) + 2] : List Int)) (p11 + 1)))))) else (eU N a0 p10)
def cW (N : Nat) (a0 : DMeeter) : Option (List Int) :=
 minor_meeter_live_l9 N a0 N [] 0
theorem ia {N : Nat} {a0 : DMeeter} {r : (List Int)} (h : cW N a0 = some r) : Okc Try.prog 34 [pV B1 0] ([bY B1 61 [.slice A2 n2 c2, .slice A3 n3 c3, .slice A4 n4 c4, .slice A5 n5 c5, .map (some M6), iV a0.next_], aR A2 n2 c2 a0.m_.Young, aR A3 n3 c3 a0.m_.Old, ca A4 n4 c4 a0.kept_, ca A5 n5 c5 a0.met_, Aw dT eM M6 a0.seen_]) (fun u post => ∃ A0 n0 c0, u = .slice A0 n0 c0 ∧ post = [bN A0 n0 c0 r]) := by
 refine bz Try.func34 rfl rfl ?_
 simp only [aQ]
 refine run ?_
 refine aL (fun s L => ∃ p8 A8 n8 c8, eU N a0 p8 = some r ∧ s = [(0, pV B1 0), (2, .slice none 0 0), (3, .slice A8 n8 c8)] ∧ L = [bN A8 n8 c8 p8, aR A2 n2 c2 a0.m_.Young, aR A3 n3 c3 a0.m_.Old, ca A4 n4 c4 a0.kept_, ca A5 n5 c5 a0.met_, Aw dT eM M6 a0.seen_, bY B1 61 [.slice A2 n2 c2, .slice A3 n3 c3, .slice A4 n4 c4, .slice A5 n5 c5, .map (some M6), iV a0.next_]]) ?_ ?_
 ·refine run ?_
  refine gR (bJ 0 rfl rfl fD rfl) ?_
  refine gR (az 2 rfl ai rfl Try.underlying22) ?_
  refine run ?_
  refine bc (fun m s L => ∃ p10 p11 A10 n10 c10, minor_meeter_live_l9 N a0 m p10 p11 = some r ∧ s = [(0, pV B1 0), (2, .slice none 0 0), (3, .slice A10 n10 c10), (10, iV (a0.m_.Old.length : Int)), (11, iV p11)] ∧ L = [bN A10 n10 c10 p10, aR A2 n2 c2 a0.m_.Young, aR A3 n3 c3 a0.m_.Old, ca A4 n4 c4 a0.kept_, ca A5 n5 c5 a0.met_, Aw dT eM M6 a0.seen_, bY B1 61 [.slice A2 n2 c2, .slice A3 n3 c3, .slice A4 n4 c4, .slice A5 n5 c5, .map (some M6), iV a0.next_]]) N _ _ ⟨[], 0, none, 0, 0, h, rfl, rfl⟩ sA ((cz (ge .i64) 3 _).trans (ab [0, 2, 3, 4, 5, 6, 1] 7 rfl rfl)) ?_
  rintro (_ | m9) _ _ ⟨p10, p11, A10, n10, c10, h, rfl, rfl⟩
  ·exact aA h
  rw [minor_meeter_live_l9.eq_2] at h
  refine run ?_
  refine av ?_
  refine ar rfl (fun g13 => ?_) (fun g13 => ?_)
  ·replace h := ag g13 h
   refine run ?_
   refine av ?_
   refine run ?_
   obtain ⟨q14, h⟩ := ao h
   refine gE (pz rfl rfl q14.1 q14.2) ?_
   obtain ⟨q15, h⟩ := ao h
   refine gE (aN rfl rfl q15.1 q15.2) ?_
   refine gD (bB (R := (ge .i64)) (vss := [[iV ((2 * p11) + 2)]]) (xs := [(2 * p11) + 2]) rfl (fa _) rfl rfl (fun _ _ hr => .cons rfl All2.nil)) ?_
   rintro _ _ ⟨A16, n16, c16, rfl, rfl⟩
   obtain ⟨q17, h⟩ := ao h
   refine gD (bm 1 0 rfl rfl aM rfl rfl Try.underlying31 ui rfl rfl q17) ?_
   rintro _ _ ⟨A18, n18, c18, rfl, rfl⟩
   refine run ?_
   obtain ⟨q19, h⟩ := ao h
   refine gE (aN rfl rfl q19.1 q19.2) ?_
   refine run ?_
   exact ⟨m9, _, _, Nat.lt_succ_self _, ⟨p10 ++ ([(2 * p11) + 2] : List Int), p11 + 1, A18, n18, c18, h, rfl, rfl⟩, sA, ab [1, 2, 3, 4, 5, 6, 7] 8 rfl rfl⟩
  replace h := ah g13 h
  refine run ?_
  exact ⟨_, _, ⟨p10, A10, n10, c10, h, rfl, rfl⟩, sA, ab [0, 1, 2, 3, 4, 5, 6] 7 rfl rfl⟩
 rintro _ _ ⟨p8, A8, n8, c8, h, rfl, rfl⟩
 refine run ?_
 refine gR (bJ 6 rfl rfl iD rfl) ?_
 obtain ⟨q20, h⟩ := ao h
 refine gD (bm 0 4 rfl rfl ai rfl rfl Try.underlying31 ui rfl rfl q20) ?_
 rintro _ _ ⟨A21, n21, c21, rfl, rfl⟩
 refine run ?_
 obtain rfl := ak h
 exact aB rfl rfl (ab [0] 7 rfl rfl) ⟨_, _, _, rfl, rfl⟩
theorem gl {r : (List Int)} : ∀ v post, ((fun (u : Value) (post : List Chunk) => ∃ A0 n0 c0, u = .slice A0 n0 c0 ∧ post = [bN A0 n0 c0 r])) v post → ∀ c ∈ post, bX c := by
 rintro _ _ ⟨_, _, _, rfl, rfl⟩; exact mem_cons bE (aj)
def fd (N : Nat) (p3 : (List Int)) : Option (List Int) :=
 some p3
def il (N : Nat) (a1 : Int) : Option (List Int) :=
 bif decide (a1 < 0) then none else (bD (aK (0 - 0)) (bD (aK (a1 - (0 - 0))) (bif decide (0 < a1 - (0 - 0)) then (bD ((0 : Int) < (a1 - (0 - 0)) ∧ (a1 - (0 - 0)) ≤ 1099511627776) (fd N ([] : List Int))) else (fd N []))))
theorem o6 {N : Nat} {a1 : Int} {r : (List Int)} (h : il N a1 = some r) : Okc Try.prog 142 [.slice none 0 0, iV a1] ([]) (fun u post => ∃ A0 n0 c0, u = .slice A0 n0 c0 ∧ post = [bN A0 n0 c0 r]) := by
 refine bz Try.func142 rfl rfl ?_
 simp only [aQ]
 refine run ?_
 refine av ?_
 refine run ?_
 refine ar rfl (fun g1 => ?_) (fun g1 => ?_)
 ·replace h := ag g1 h
  exact aA h
 replace h := ah g1 h
 refine run ?_
 refine aL (fun s L => ∃ p3 A3 n3 c3, fd N p3 = some r ∧ s = [(0, .slice A3 n3 c3), (4, .slice none 0 0)] ∧ L = [bN A3 n3 c3 p3]) ?_ ?_
 ·refine run ?_
  refine gE (qt rfl Try.underlying31) ?_
  refine run ?_
  refine gE (jp rfl Try.underlying31) ?_
  obtain ⟨q4, h⟩ := ao h
  refine gE (jV rfl rfl q4.1 q4.2) ?_
  obtain ⟨q5, h⟩ := ao h
  refine gE (jV rfl rfl q5.1 q5.2) ?_
  refine run ?_
  refine ar rfl (fun g6 => ?_) (fun g6 => ?_)
  ·replace h := ag g6 h
   refine run ?_
   refine gE (qt rfl Try.underlying31) ?_
   refine gE (sG rfl Try.underlying31 eH rfl) ?_
   refine run ?_
   obtain ⟨q7, h⟩ := ao h
   refine gD (re rfl rfl Try.underlying31 Try.underlying3 ui rfl q7.1 q7.2) ?_
   rintro _ _ ⟨A8, n8, c8, rfl, rfl⟩
   refine run ?_
   refine gE (jp rfl Try.underlying31) ?_
   refine gD (wT (R := (ge .i64)) 0 rfl rfl Try.underlying31 eH rfl rfl) ?_
   rintro _ _ ⟨A9, n9, c9, rfl, rfl⟩
   refine run ?_
   exact ⟨_, _, ⟨([] : List Int), A9, n9, c9, h, rfl, rfl⟩, sA, ab [0] 1 rfl rfl⟩
  replace h := ah g6 h
  refine run ?_
  exact ⟨_, _, ⟨[], none, 0, 0, h, rfl, rfl⟩, sA, (cz (ge .i64) 3 _).trans (ab [0] 1 rfl rfl)⟩
 rintro _ _ ⟨p3, A3, n3, c3, h, rfl, rfl⟩
 refine run ?_
 obtain rfl := ak h
 exact aB rfl rfl (ab [0] 1 rfl rfl) ⟨_, _, _, rfl, rfl⟩
theorem ns {r : (List Int)} : ∀ v post, ((fun (u : Value) (post : List Chunk) => ∃ A0 n0 c0, u = .slice A0 n0 c0 ∧ post = [bN A0 n0 c0 r])) v post → ∀ c ∈ post, bX c := by
 rintro _ _ ⟨_, _, _, rfl, rfl⟩; exact mem_cons bE (aj)
def f6 (N : Nat) (p12 : (List Int)) : Option (List Int) :=
 some p12
def gB (N : Nat) (a0_0 : (List Int)) (a0_1 : (List Int)) : Option (List Int) :=
 (il N ((0 + (a0_0.length : Int)) + (a0_1.length : Int))).bind fun y9 => bD (cu (y9.length + a0_0.length)) (bD (cu ((y9 ++ a0_0).length + a0_1.length)) (f6 N ((y9 ++ a0_0) ++ a0_1)))
def fK (N : Nat) (a0_0 : (List Int)) (a0_1 : (List Int)) : Option (List Int) :=
 bD (aK (0 + (a0_0.length : Int))) (bif decide (0 + (a0_0.length : Int) < 0) then none else (bD (aK ((0 + (a0_0.length : Int)) + (a0_1.length : Int))) (bif decide ((0 + (a0_0.length : Int)) + (a0_1.length : Int) < 0) then none else (gB N a0_0 a0_1))))
theorem o7 {N : Nat} {a0_0 : (List Int)} {a0_1 : (List Int)} {r : (List Int)} (h : fK N a0_0 a0_1 = some r) : Okc Try.prog 111 [.slice (some ⟨B1, 0, none⟩) 2 2] ([bY B1 31 [.slice A2 n2 c2, .slice A3 n3 c3], ca A2 n2 c2 a0_0, ca A3 n3 c3 a0_1]) (fun u post => ∃ A0 n0 c0, u = .slice A0 n0 c0 ∧ post = [bN A0 n0 c0 r]) := by
 refine bz Try.func111 rfl rfl ?_
 simp only [aQ]
 refine run ?_
 refine aL (fun s L => gB N a0_0 a0_1 = some r ∧ s = [(0, .slice (some ⟨B1, 0, none⟩) 2 2), (2, .slice none 0 0), (3, iV ((0 + (a0_0.length : Int)) + (a0_1.length : Int)))] ∧ L = [ca A2 n2 c2 a0_0, ca A3 n3 c3 a0_1, bY B1 31 [.slice A2 n2 c2, .slice A3 n3 c3]]) ?_ ?_
 ·refine run ?_
  refine gE (jp rfl Try.underlying149) ?_
  refine run ?_
  refine ms 3 ?_
  refine nN ?_
  refine run ?_
  refine av ?_
  refine fI rfl ?_
  refine run ?_
  refine av ?_
  refine run ?_
  refine gE (jq rfl rfl Try.underlying149 nv (by decide) (by decide)) ?_
  refine gR (bJ 0 rfl rfl iD rfl) ?_
  refine run ?_
  refine gR (az 1 rfl ai rfl Try.underlying31) ?_
  obtain ⟨q5, h⟩ := ao h
  refine gE (aN rfl rfl q5.1 q5.2) ?_
  refine run ?_
  refine ar rfl (fun g6 => ?_) (fun g6 => ?_)
  ·replace h := ag g6 h
   exact aA h
  replace h := ah g6 h
  refine run ?_
  refine gE (aN rfl rfl (by decide) (by decide)) ?_
  refine run ?_
  refine nN ?_
  refine run ?_
  refine av ?_
  refine fI rfl ?_
  refine run ?_
  refine av ?_
  refine run ?_
  refine gE (jq rfl rfl Try.underlying149 nv (by decide) (by decide)) ?_
  refine gR (bJ 0 rfl rfl iD rfl) ?_
  refine run ?_
  refine gR (az 2 rfl ai rfl Try.underlying31) ?_
  obtain ⟨q7, h⟩ := ao h
  refine gE (aN rfl rfl q7.1 q7.2) ?_
  refine run ?_
  refine ar rfl (fun g8 => ?_) (fun g8 => ?_)
  ·replace h := ag g8 h
   exact aA h
  replace h := ah g8 h
  refine run ?_
  refine gE (aN rfl rfl (by decide) (by decide)) ?_
  refine run ?_
  refine nN ?_
  refine run ?_
  refine av ?_
  refine mu rfl ?_
  refine run ?_
  exact ⟨_, _, ⟨h, rfl, rfl⟩, sA, ab [1, 2, 0] 3 rfl rfl⟩
 rintro _ _ ⟨h, rfl, rfl⟩
 refine run ?_
 obtain ⟨y9, hy9, h⟩ := aa h
 refine gD (al (o6 hy9) Bd rfl (aj) ns) ?_
 rintro _ _ ⟨_, ⟨A10, n10, c10, rfl, rfl⟩, rfl⟩
 refine run ?_
 refine aL (fun s L => ∃ p12 A12 n12 c12, f6 N p12 = some r ∧ s = [(2, .slice none 0 0), (6, .slice A12 n12 c12)] ∧ L = [bN A12 n12 c12 p12]) ?_ ?_
 ·refine run ?_
  refine gE (jp rfl Try.underlying149) ?_
  refine run ?_
  refine ms 3 ?_
  refine nN ?_
  refine run ?_
  refine av ?_
  refine fI rfl ?_
  refine run ?_
  refine av ?_
  refine run ?_
  refine gE (jq rfl rfl Try.underlying149 nv (by decide) (by decide)) ?_
  refine gR (bJ 3 rfl rfl iD rfl) ?_
  refine run ?_
  obtain ⟨q13, h⟩ := ao h
  refine gD (bm 0 1 rfl rfl ai rfl rfl Try.underlying31 ui rfl rfl q13) ?_
  rintro _ _ ⟨A14, n14, c14, rfl, rfl⟩
  refine run ?_
  refine gE (aN rfl rfl (by decide) (by decide)) ?_
  refine run ?_
  refine nN ?_
  refine run ?_
  refine av ?_
  refine fI rfl ?_
  refine run ?_
  refine av ?_
  refine run ?_
  refine gE (jq rfl rfl Try.underlying149 nv (by decide) (by decide)) ?_
  refine gR (bJ 3 rfl rfl iD rfl) ?_
  refine run ?_
  obtain ⟨q15, h⟩ := ao h
  refine gD (bm 0 2 rfl rfl ai rfl rfl Try.underlying31 ui rfl rfl q15) ?_
  rintro _ _ ⟨A16, n16, c16, rfl, rfl⟩
  refine run ?_
  refine gE (aN rfl rfl (by decide) (by decide)) ?_
  refine run ?_
  refine nN ?_
  refine run ?_
  refine av ?_
  refine mu rfl ?_
  refine run ?_
  exact ⟨_, _, ⟨(y9 ++ a0_0) ++ a0_1, A16, n16, c16, h, rfl, rfl⟩, sA, ab [0] 4 rfl rfl⟩
 rintro _ _ ⟨p12, A12, n12, c12, h, rfl, rfl⟩
 refine run ?_
 obtain rfl := ak h
 exact aB rfl rfl (ab [0] 1 rfl rfl) ⟨_, _, _, rfl, rfl⟩
theorem nu {r : (List Int)} : ∀ v post, ((fun (u : Value) (post : List Chunk) => ∃ A0 n0 c0, u = .slice A0 n0 c0 ∧ post = [bN A0 n0 c0 r])) v post → ∀ c ∈ post, bX c := by
 rintro _ _ ⟨_, _, _, rfl, rfl⟩; exact mem_cons bE (aj)
def kf (N : Nat) (a0 : DCell) : Option Bool :=
 (bif decide (a0.Kind = 8) then ((el N a0).bind fun y5 => some y5) else (some false)).bind fun b4 => some b4
theorem qD {N : Nat} {a0 : DCell} {r : Bool} (h : kf N a0 = some r) : Okc Try.prog 112 [.agg #[iV a0.Kind, iV a0.Shape, iV a0.Flags, iV a0.Age, .slice A1 n1 c1, .slice A2 n2 c2]] ([aF A1 n1 c1 a0.Slots, aF A2 n2 c2 a0.More]) (fun u post => u = .bool r ∧ post = []) := by
 refine bz Try.func112 rfl rfl ?_
 simp only [aQ]
 refine run ?_
 refine gD (aU rfl rfl) ?_
 rintro _ _ ⟨B3, rfl, rfl⟩
 refine run ?_
 obtain ⟨b4, hb4, h⟩ := aa h
 refine aw 3 9 b4 ?_ ?_
 ·clear h
  refine ax 6 rfl (fun g4 => ?_) (fun g4 => ?_)
  ·have h := ag g4 hb4
   refine aZ (aE (us := [iV a0.Kind, iV a0.Shape, iV a0.Flags, iV a0.Age, .slice A1 n1 c1, .slice A2 n2 c2]) 0 rfl rfl ba rfl) rfl (aJ g4 rfl) rfl ?_
   obtain ⟨y5, hy5, h⟩ := aa h
   refine bM (al (jY hy5) wr rfl (mem_cons (am (i := 1) rfl rfl) (mem_cons (am (i := 2) rfl rfl) aj)) iw) rfl (aJ g4 rfl) rfl ?_
   rintro _ _ ⟨_, ⟨rfl, rfl⟩, rfl⟩
   refine run ?_
   obtain rfl := ak h
   exact ad sA (ab [0, 1, 2] 3 rfl rfl)
  have h := ah g4 hb4
  refine run ?_
  obtain rfl := ak h
  exact ad sA (ab [0, 1, 2] 3 rfl rfl)
 refine run ?_
 obtain rfl := ak h
 exact aB rfl rfl (ab [] 3 rfl rfl) ⟨rfl, rfl⟩
theorem nS {r : Bool} : ∀ v post, ((fun (u : Value) (post : List Chunk) => u = .bool r ∧ post = [])) v post → ∀ c ∈ post, bX c := by
 rintro _ _ ⟨rfl, rfl⟩; exact aj
def weak_entries_c1_l4 (N : Nat) {σ : Type} (fy : (DValue × DValue) → σ → Option (Bool × σ)) (a1 : DCell) : Nat → Int → σ → Option σ
 | 0, _, _ => none
 | m4 + 1, p5, p6 => bD (aK (p5 + 1)) (bif decide (p5 + 1 < (a1.More.length : Int)) then ((aH a1.More p5).bind fun x9 => bD (aK (p5 + 1)) ((aH a1.More (p5 + 1)).bind fun x11 => (fy (x9, x11) p6).bind fun y12 => bif !y12.1 then (some y12.2) else (bD (aK (p5 + 2)) ((weak_entries_c1_l4 N fy a1 m4) (p5 + 2) y12.2)))) else (some p6))
def dA (N : Nat) {σ : Type} (a1 : DCell) (fy : (DValue × DValue) → σ → Option (Bool × σ)) (s0 : σ) : Option σ :=
 weak_entries_c1_l4 N fy a1 N 0 s0
theorem iX {N : Nat} {σ : Type} {a1 : DCell} {fy : (DValue × DValue) → σ → Option (Bool × σ)} {s0 : σ} {r : σ} (h : dA N a1 fy s0 = some r) {l : Nat} {G : σ → List Chunk} (hY : lg Try.prog l G (fun x => [.agg #[iV x.1.Kind, iV x.1.N, .string x.1.S], .agg #[iV x.2.Kind, iV x.2.N, .string x.2.S]]) fy) : Okc Try.prog 150 [.func (.yield l) #[] #[], pV B1 0] (bY B1 42 [iV a1.Kind, iV a1.Shape, iV a1.Flags, iV a1.Age, .slice A2 n2 c2, .slice A3 n3 c3] :: aF A2 n2 c2 a1.Slots :: aF A3 n3 c3 a1.More :: (G s0)) (fun u post => u = .tuple #[] ∧ post = G r) := by
 refine bz Try.func150 rfl rfl ?_
 simp only [aQ]
 refine run ?_
 refine bc (fun m s L => ∃ p5 p6, weak_entries_c1_l4 N fy a1 m p5 p6 = some r ∧ s = [(0, .func (.yield l) #[] #[]), (1, pV B1 0), (3, iV p5)] ∧ L = aF A2 n2 c2 a1.Slots :: aF A3 n3 c3 a1.More :: bY B1 42 [iV a1.Kind, iV a1.Shape, iV a1.Flags, iV a1.Age, .slice A2 n2 c2, .slice A3 n3 c3] :: (G p6)) N _ _ ⟨0, s0, h, rfl, rfl⟩ sA (ab [1, 2, 0] 3 rfl rfl) ?_
 rintro (_ | m4) _ _ ⟨p5, p6, h, rfl, rfl⟩
 ·exact aA h
 rw [weak_entries_c1_l4.eq_2] at h
 refine av ?_
 refine run ?_
 obtain ⟨q7, h⟩ := ao h
 refine gE (aN rfl rfl q7.1 q7.2) ?_
 refine run ?_
 refine gR (bJ 2 rfl rfl ft rfl) ?_
 refine gR (az 1 rfl ai rfl Try.underlying25) ?_
 refine run ?_
 refine ar rfl (fun g8 => ?_) (fun g8 => ?_)
 ·replace h := ag g8 h
  refine run ?_
  refine av ?_
  refine ep ?_
  refine av ?_
  obtain ⟨x9, hx9, h⟩ := aa h
  obtain ⟨lx9, ux9, hx9⟩ := ap hx9
  obtain ⟨q10, h⟩ := ao h
  obtain ⟨x11, hx11, h⟩ := aa h
  obtain ⟨lx11, ux11, hx11⟩ := ap hx11
  refine fb (t := [(0, .func (.yield l) #[] #[]), (1, pV B1 0), (3, iV p5)]) ?_ gX (ac _)
  refine fo (by kernel_rfl) 12 [] [0, 5, 11] [12, 13, 14, 15, 16, 17, 18, 19, 20, 21, 22, 23] [[], [], [1], [], [2, 3], [4], [], [6], [], [8], [7, 9], [10]] [aV (.func (.yield l) #[] #[]),
 aV (pV B1 5),
 aV (.slice A3 n3 c3),
 aV (iV p5),
 aV (bK (.slice A3 n3 c3) p5.toNat 3 0),
 aV (.agg #[iV x9.Kind, iV x9.N, .string x9.S]),
 aV (pV B1 5),
 aV (.slice A3 n3 c3),
 aV (iV p5),
 aV (iV (p5 + 1)),
 aV (bK (.slice A3 n3 c3) ((p5 + 1).toNat) 3 0),
 aV (.agg #[iV x11.Kind, iV x11.N, .string x11.S])] [] (ac _) (gH) (by kernel_rfl) rfl rfl ?_ ?_ ?_
  ·exact gG
  ·refine ae rfl ?_ ?_
   ·exact bW (aO (us := [iV x11.Kind, iV x11.N, .string x11.S]) 1 rfl ai rfl hx11 bp (fun _ _ _ h => by rw [show _ = _ from h]; rfl)) rfl (aD rfl (ac _))
   refine ae rfl ?_ ?_
   ·exact bW (aC 1 rfl ai rfl rfl Try.underlying25 aG lx11 ux11) rfl (aD rfl (ac _))
   refine ae rfl ?_ ?_
   ·exact bj (aN rfl rfl q10.1 q10.2) rfl (aD rfl (ac _))
   refine ae rfl ?_ ?_
   ·exact bj (aI rfl) rfl (aD rfl (ac _))
   refine ae rfl ?_ ?_
   ·exact bW (bJ 2 rfl rfl ft rfl) rfl (aD rfl (ac _))
   refine ae rfl ?_ ?_
   ·exact bj (cK rfl gt) rfl (aD rfl (ac _))
   refine ae rfl ?_ ?_
   ·exact bW (aO (us := [iV x9.Kind, iV x9.N, .string x9.S]) 1 rfl ai rfl hx9 bp (fun _ _ _ h => by rw [show _ = _ from h]; rfl)) rfl (aD rfl (ac _))
   refine ae rfl ?_ ?_
   ·exact bW (aC 1 rfl ai rfl rfl Try.underlying25 aG lx9 ux9) rfl (aD rfl (ac _))
   refine ae rfl ?_ ?_
   ·exact bj (aI rfl) rfl (aD rfl (ac _))
   refine ae rfl ?_ ?_
   ·exact bW (bJ 2 rfl rfl ft rfl) rfl (aD rfl (ac _))
   refine ae rfl ?_ ?_
   ·exact bj (cK rfl gt) rfl (aD rfl (ac _))
   refine ae rfl ?_ ?_
   ·exact bj (aI rfl) rfl (aD rfl (ac _))
   exact db
  refine jN (t := [(12, .func (.yield l) #[] #[]), (17, .agg #[iV x9.Kind, iV x9.N, .string x9.S]), (23, .agg #[iV x11.Kind, iV x11.N, .string x11.S]), (0, .func (.yield l) #[] #[]), (1, pV B1 0), (3, iV p5)]) (L' := aF A2 n2 c2 a1.Slots :: aF A3 n3 c3 a1.More :: bY B1 42 [iV a1.Kind, iV a1.Shape, iV a1.Flags, iV a1.Age, .slice A2 n2 c2, .slice A3 n3 c3] :: (G p6)) ?_ gX (ac _)
  obtain ⟨y12, hy12, h⟩ := aa h
  refine sU 12 rfl (by kernel_rfl) (pi (a := (x9, x11)) [aF A2 n2 c2 a1.Slots, aF A3 n3 c3 a1.More, bY B1 42 [iV a1.Kind, iV a1.Shape, iV a1.Flags, iV a1.Age, .slice A2 n2 c2, .slice A3 n3 c3]] hY hy12 rfl rfl) rfl rfl rfl ?_
  rintro _ _ ⟨rfl, rfl⟩
  refine oZ 13 rfl (by kernel_rfl) (kX rfl) rfl rfl rfl ?_
  refine gM (by kernel_rfl) ?_
  refine kO ?_
  refine ar rfl (fun g13 => ?_) (fun g13 => ?_)
  ·replace h := ag g13 h
   refine run ?_
   obtain rfl := ak h
   exact vb rfl (ab [] 3 rfl rfl) ⟨rfl, rfl⟩
  replace h := ah g13 h
  refine run ?_
  obtain ⟨q14, h⟩ := ao h
  refine gE (aN rfl rfl q14.1 q14.2) ?_
  refine run ?_
  exact ⟨m4, _, _, Nat.lt_succ_self _, ⟨p5 + 2, y12.2, h, rfl, rfl⟩, sA, ab [0, 1, 2] 3 rfl rfl⟩
 replace h := ah g8 h
 refine run ?_
 obtain rfl := ak h
 exact nJ rfl (ab [] 3 rfl rfl) ⟨rfl, rfl⟩
def eN (N : Nat) (a0 : DCell) : Option Unit :=
 some ()
theorem lh {N : Nat} {a0 : DCell} {r : Unit} (h : eN N a0 = some r) : Okc Try.prog 135 [.agg #[iV a0.Kind, iV a0.Shape, iV a0.Flags, iV a0.Age, .slice A1 n1 c1, .slice A2 n2 c2]] ([aF A1 n1 c1 a0.Slots, aF A2 n2 c2 a0.More]) (fun u post => ∃ B900, u = .func (.func 150) #[] #[pV B900 0] ∧ post = [aq B900 42 [iV a0.Kind, iV a0.Shape, iV a0.Flags, iV a0.Age, .slice A1 n1 c1, .slice A2 n2 c2]]) := by
 refine bz Try.func135 rfl rfl ?_
 simp only [aQ]
 refine run ?_
 refine gD (aU rfl rfl) ?_
 rintro _ _ ⟨B3, rfl, rfl⟩
 refine run ?_
 refine gE (eW rfl) ?_
 refine run ?_
 obtain rfl := ak h
 exact aB rfl rfl (ab [0] 3 rfl rfl) ⟨_, rfl, rfl⟩
theorem jB {a0 : DCell} {A1 : Option Addr} {n1 : Nat} {c1 : Nat} {A2 : Option Addr} {n2 : Nat} {c2 : Nat} : ∀ v post, ((fun (u : Value) (post : List Chunk) => ∃ B900, u = .func (.func 150) #[] #[pV B900 0] ∧ post = [aq B900 42 [iV a0.Kind, iV a0.Shape, iV a0.Flags, iV a0.Age, .slice A1 n1 c1, .slice A2 n2 c2]])) v post → ∀ c ∈ post, bX c := by
 rintro _ _ ⟨_, rfl, rfl⟩; exact mem_cons lZ (aj)
def di (N : Nat) (a1 : (List Int)) (x12 : DValue × DValue) : ((List Int)) → Option (Option Exit × (List Int))
 | p13 => (bif decide (x12.2.Kind = 7) then (some true) else (some (decide (x12.2.Kind = 9)))).bind fun b18 => (bif b18 then ((cq N a1 x12.1.N).bind fun y20 => some y20) else (some false)).bind fun b19 => bif b19 then (bD (cu (p13.length + ([x12.2.N] : List Int).length)) (some (none, p13 ++ ([x12.2.N] : List Int)))) else (some (none, p13))
def iH (N : Nat) (a0 : DCell) (a1 : (List Int)) : Option (List Int) :=
 (kf N a0).bind fun y6 => bif !y6 then (some []) else ((eN N a0).bind fun y10 => (dA N a0 (cm (fun x st => di N a1 x st)) (none, [])).bind fun y14 => oW y14.1 (some y14.2) none (fun _ => none))
theorem rP {N : Nat} {a0 : DCell} {a1 : (List Int)} {r : (List Int)} (h : iH N a0 a1 = some r) : Okc Try.prog 95 [.agg #[iV a0.Kind, iV a0.Shape, iV a0.Flags, iV a0.Age, .slice A1 n1 c1, .slice A2 n2 c2], .slice A3 n3 c3] ([aF A1 n1 c1 a0.Slots, aF A2 n2 c2 a0.More, ca A3 n3 c3 a1]) (fun u post => ∃ A0 n0 c0, u = .slice A0 n0 c0 ∧ post = [bN A0 n0 c0 r]) := by
 refine bz Try.func95 rfl rfl ?_
 simp only [aQ]
 refine run ?_
 refine gD (aU rfl rfl) ?_
 rintro _ _ ⟨B4, rfl, rfl⟩
 refine gD (aU rfl rfl) ?_
 rintro _ _ ⟨B5, rfl, rfl⟩
 refine run ?_
 refine av ?_
 refine run ?_
 refine gR (aE (us := [iV a0.Kind, iV a0.Shape, iV a0.Flags, iV a0.Age, .slice A1 n1 c1, .slice A2 n2 c2]) 1 rfl rfl ba rfl) ?_
 obtain ⟨y6, hy6, h⟩ := aa h
 refine gD (al (qD hy6) xv rfl (mem_cons (am (i := 2) rfl rfl) (mem_cons (am (i := 3) rfl rfl) aj)) nS) ?_
 rintro _ _ ⟨_, ⟨rfl, rfl⟩, rfl⟩
 refine run ?_
 refine ar rfl (fun g7 => ?_) (fun g7 => ?_)
 ·replace h := ag g7 h
  refine run ?_
  obtain rfl := ak h
  exact aB rfl rfl ((cz (ge .i64) 3 _).trans (ab [0] 6 rfl rfl)) ⟨_, _, _, rfl, rfl⟩
 replace h := ah g7 h
 refine run ?_
 refine gD (aS yv rfl) ?_
 rintro _ _ ⟨B9, rfl, rfl⟩
 refine run ?_
 refine av ?_
 refine run ?_
 refine gR (aE (us := [iV a0.Kind, iV a0.Shape, iV a0.Flags, iV a0.Age, .slice A1 n1 c1, .slice A2 n2 c2]) 2 rfl rfl ba rfl) ?_
 obtain ⟨y10, hy10, h⟩ := aa h
 refine gD (al (lh hy10) xt rfl (mem_cons (am (i := 3) rfl rfl) (mem_cons (am (i := 4) rfl rfl) aj)) jB) ?_
 rintro _ _ ⟨_, ⟨B11, rfl, rfl⟩, rfl⟩
 refine o3 ?_
 refine kO ?_
 refine fb ?_ cI (fZ 0 rfl)
 obtain ⟨y14, hy14, h⟩ := aa h
 refine o0 (en := (fun x => [.agg #[iV x.1.Kind, iV x.1.N, .string x.1.S], .agg #[iV x.2.Kind, iV x.2.N, .string x.2.S]])) (fun x st => di N a1 x st) (fun (st : (List Int)) (mz : ((Option Addr × Nat × Nat))) => [ca A3 n3 c3 a1, aq B5 31 [.slice A3 n3 c3], gj (ge .i64) 3 (.slice mz.1 mz.2.1 mz.2.2) st, aq B9 31 [.slice mz.1 mz.2.1 mz.2.2]]) [bY B11 42 [iV a0.Kind, iV a0.Shape, iV a0.Flags, iV a0.Age, .slice A1 n1 c1, .slice A2 n2 c2], aF A1 n1 c1 a0.Slots, aF A2 n2 c2 a0.More] ([]) ((none, 0, 0)) rfl rfl xq rfl (fun _ => rfl) (fun l G hY => (iX hy14 hY).mono fun _ _ hh => hh.2) ((cz (ge .i64) 3 _).trans (bO [1, 5, 6] [] [7, 3, 0, 2] 8 rfl)) h ?_ ?_ ?_ ?_
 ·rintro l x12 p13 je sr12 ⟨A13, n13, c13⟩ h
  replace h : di N a1 x12 p13 = some (je, sr12) := h
  simp only [qn, List.zip_cons_cons, List.zip_nil_left, List.zip_nil_right, List.reverse_cons, List.reverse_nil, List.nil_append, List.cons_append]
  refine run ?_
  refine gD (aS gz rfl) ?_
  rintro _ _ ⟨B16, rfl, rfl⟩
  refine gO (ay (us := [iV x12.1.Kind, iV x12.1.N, .string x12.1.S]) (cs' := [iV x12.1.Kind, iV x12.1.N, .string x12.1.S]) 0 rfl rfl rfl rfl aG rfl rfl rfl) ?_
  rintro _ _ rfl
  refine run ?_
  refine gD (aS gz rfl) ?_
  rintro _ _ ⟨B17, rfl, rfl⟩
  refine gO (ay (us := [iV x12.2.Kind, iV x12.2.N, .string x12.2.S]) (cs' := [iV x12.2.Kind, iV x12.2.N, .string x12.2.S]) 0 rfl rfl rfl rfl aG rfl rfl rfl) ?_
  rintro _ _ rfl
  refine ck ([aq B17 38 [iV x12.2.Kind, iV x12.2.N, .string x12.2.S], aq B16 38 [iV x12.1.Kind, iV x12.1.N, .string x12.1.S], ca A3 n3 c3 a1, aq B5 31 [.slice A3 n3 c3], bN A13 n13 c13 p13, aq B9 31 [.slice A13 n13 c13]]) rfl ?_
  refine run ?_
  obtain ⟨b18, hb18, h⟩ := aa h
  refine aw 4 22 b18 ?_ ?_
  ·clear h
   refine ax 18 rfl (fun g18 => ?_) (fun g18 => ?_)
   ·have h := ag g18 hb18
    refine run ?_
    obtain rfl := ak h
    exact ad sA (ab [0, 1, 2, 3, 4, 5] 6 rfl rfl)
   have h := ah g18 hb18
   refine run ?_
   obtain rfl := ak h
   exact ad sA (ab [0, 1, 2, 3, 4, 5] 6 rfl rfl)
  refine run ?_
  obtain ⟨b19, hb19, h⟩ := aa h
  refine aw 5 28 b19 ?_ ?_
  ·clear h
   refine ax 23 rfl (fun g19 => ?_) (fun g19 => ?_)
   ·have h := ag g19 hb19
    refine run ?_
    obtain ⟨y20, hy20, h⟩ := aa h
    refine bM (al (ef hy20) tU rfl (mem_cons (am (i := 2) rfl rfl) aj) dB) rfl (aJ g19 rfl) rfl ?_
    rintro _ _ ⟨_, ⟨rfl, rfl⟩, rfl⟩
    refine run ?_
    obtain rfl := ak h
    exact ad sA (ab [0, 1, 2, 3, 4, 5] 6 rfl rfl)
   have h := ah g19 hb19
   refine run ?_
   obtain rfl := ak h
   exact ad sA (ab [0, 1, 2, 3, 4, 5] 6 rfl rfl)
  refine run ?_
  refine ar rfl (fun g21 => ?_) (fun g21 => ?_)
  ·replace h := ag g21 h
   refine run ?_
   refine gD (bB (R := (ge .i64)) (vss := [[iV x12.2.N]]) (xs := [x12.2.N]) rfl (fa _) rfl rfl (fun _ _ hr => .cons rfl All2.nil)) ?_
   rintro _ _ ⟨A22, n22, c22, rfl, rfl⟩
   obtain ⟨q23, h⟩ := ao h
   refine gD (bm 5 0 rfl rfl aM rfl rfl Try.underlying31 ui rfl rfl q23) ?_
   rintro _ _ ⟨A24, n24, c24, rfl, rfl⟩
   refine gO (ay (us := [.slice A24 n24 c24]) (cs' := [.slice A24 n24 c24]) 6 rfl rfl rfl rfl nv rfl rfl rfl) ?_
   rintro _ _ rfl
   refine run ?_
   obtain ⟨rfl, rfl⟩ := Prod.mk.inj (Option.some.inj h)
   exact sb ((ab [3, 4, 5, 6] 7 rfl rfl).trans (dq (A24, n24, c24) rfl))
  replace h := ah g21 h
  refine run ?_
  obtain ⟨rfl, rfl⟩ := Prod.mk.inj (Option.some.inj h)
  exact sb ((ab [2, 3, 4, 5] 6 rfl rfl).trans (dq (A13, n13, c13) rfl))
 ·rintro ⟨A13, n13, c13⟩ h
  refine jO ([ca A3 n3 c3 a1, aq B5 31 [.slice A3 n3 c3], bN A13 n13 c13 y14.2, aq B9 31 [.slice A13 n13 c13]]) rfl ?_
  refine run ?_
  obtain rfl := ak h
  exact aB rfl rfl (ab [2] 4 rfl rfl) ⟨_, _, _, rfl, rfl⟩
 ·rintro ⟨A13, n13, c13⟩ h
  exact aA h
 rintro i ⟨A13, n13, c13⟩ h
 exact aA h
theorem qb {r : (List Int)} : ∀ v post, ((fun (u : Value) (post : List Chunk) => ∃ A0 n0 c0, u = .slice A0 n0 c0 ∧ post = [bN A0 n0 c0 r])) v post → ∀ c ∈ post, bX c := by
 rintro _ _ ⟨_, _, _, rfl, rfl⟩; exact mem_cons bE (aj)
def eT (N : Nat) (a0 : DMeeter) (p10 : (List DCell)) (p11 : (List DCell)) (p12 : (List Int)) (p13 : (List Int)) (p14 : (List (Int × Bool))) (p15 : Int) : Option (Bool × DMeeter) :=
 some (decide ((a0.met_.length : Int) < (p13.length : Int)), (⟨(⟨p10, p11⟩ : DMemory), p12, p13, p14, p15⟩ : DMeeter))
def du (N : Nat) (kb21 : Int → (List DCell) → (List DCell) → (List Int) → (List Int) → (List (Int × Bool)) → Int → Option (Bool × DMeeter)) (a0 : DMeeter) (y18 : ((List Int))) (p22 : Int) (y7 : ((List Int))) (p31 : (List DCell)) (p32 : (List DCell)) (p33 : (List Int)) (p34 : (List Int)) (p35 : (List (Int × Bool))) (p36 : Int) : Option (Bool × DMeeter) :=
 bD (aK (p22 + 1)) (kb21 (p22 + 1) p31 p32 p33 p34 p35 p36)
def minor_meeter_open_l43 (N : Nat) (kb21 : Int → (List DCell) → (List DCell) → (List Int) → (List Int) → (List (Int × Bool)) → Int → Option (Bool × DMeeter)) (a0 : DMeeter) (y18 : ((List Int))) (p22 : Int) (y41 : ((List Int))) (y7 : ((List Int))) : Nat → Int → (List DCell) → (List DCell) → (List Int) → (List Int) → (List (Int × Bool)) → Int → Option (Bool × DMeeter)
 | 0, _, _, _, _, _, _, _ => none
 | m43 + 1, p44, p45, p46, p47, p48, p49, p50 => bif decide (p44 < (y41.length : Int)) then ((aH y41 p44).bind fun x52 => (br N (⟨(⟨p45, p46⟩ : DMemory), p47, p48, p49, p50⟩ : DMeeter) x52).bind fun y53 => bD (aK (p44 + 1)) ((minor_meeter_open_l43 N kb21 a0 y18 p22 y41 y7 m43) (p44 + 1) y53.m_.Young y53.m_.Old y53.kept_ y53.met_ y53.seen_ y53.next_)) else (du N kb21 a0 y18 p22 y7 p45 p46 p47 p48 p49 p50)
def minor_meeter_open_l21 (N : Nat) (a0 : DMeeter) (y18 : ((List Int))) (y7 : ((List Int))) : Nat → Int → (List DCell) → (List DCell) → (List Int) → (List Int) → (List (Int × Bool)) → Int → Option (Bool × DMeeter)
 | 0, _, _, _, _, _, _, _ => none
 | m21 + 1, p22, p23, p24, p25, p26, p27, p28 => bif decide (p22 < (y18.length : Int)) then ((aH y18 p22).bind fun x37 => (be N (⟨(⟨p23, p24⟩ : DMemory), p25, p26, p27, p28⟩ : DMeeter) x37).bind fun y38 => (iH N y38 y7).bind fun y41 => minor_meeter_open_l43 N (minor_meeter_open_l21 N a0 y18 y7 m21) a0 y18 p22 y41 y7 N 0 p23 p24 p25 p26 p27 p28) else (eT N a0 p23 p24 p25 p26 p27 p28)
def cV (N : Nat) (a0 : DMeeter) : Option (Bool × DMeeter) :=
 (cW N a0).bind fun y7 => (fK N a0.kept_ a0.met_).bind fun y18 => minor_meeter_open_l21 N a0 y18 y7 N 0 a0.m_.Young a0.m_.Old a0.kept_ a0.met_ a0.seen_ a0.next_
theorem lX {N : Nat} {a0 : DMeeter} {r : (Bool × DMeeter)} (h : cV N a0 = some r) : Okc Try.prog 77 [pV B1 0] ([aR A2 n2 c2 a0.m_.Young, aR A3 n3 c3 a0.m_.Old, ca A4 n4 c4 a0.kept_, aq B1 61 [.slice A2 n2 c2, .slice A3 n3 c3, .slice A4 n4 c4, .slice A5 n5 c5, .map (some M6), iV a0.next_], bN A5 n5 c5 a0.met_, bw dT eM M6 a0.seen_]) (fun u post => ∃ A0 n0 c0 A1 n1 c1 A2 n2 c2 A3 n3 c3 M4, u = .bool r.1 ∧ post = [aq B1 61 [.slice A0 n0 c0, .slice A1 n1 c1, .slice A2 n2 c2, .slice A3 n3 c3, .map (some M4), iV r.2.next_], aR A0 n0 c0 r.2.m_.Young, aR A1 n1 c1 r.2.m_.Old, ca A2 n2 c2 r.2.kept_, bN A3 n3 c3 r.2.met_, bw dT eM M4 r.2.seen_]) := by
 refine bz Try.func77 rfl rfl ?_
 simp only [aQ]
 refine run ?_
 refine gR (az 4 rfl aM rfl Try.underlying31) ?_
 refine run ?_
 obtain ⟨y7, hy7, h⟩ := aa h
 refine gD (al (ia hy7) zS rfl (mem_cons (kw (i := 3) rfl) (mem_cons (am (i := 0) rfl rfl) (mem_cons (am (i := 1) rfl rfl) (mem_cons (am (i := 2) rfl rfl) (mem_cons (cC (i := 4) rfl) (mem_cons (uN (i := 5) rfl) aj)))))) gl) ?_
 rintro _ _ ⟨_, ⟨A8, n8, c8, rfl, rfl⟩, rfl⟩
 refine run ?_
 refine aL (fun s L => ∃ p10 p11 p12 p13 p14 p15 A10 n10 c10 A11 n11 c11 A12 n12 c12 A13 n13 c13 M14, eT N a0 p10 p11 p12 p13 p14 p15 = some r ∧ s = [(0, pV B1 0), (2, .bool false), (3, iV (a0.met_.length : Int))] ∧ L = [aR A10 n10 c10 p10, aR A11 n11 c11 p11, ca A12 n12 c12 p12, bN A13 n13 c13 p13, bw dT eM M14 p14, aq B1 61 [.slice A10 n10 c10, .slice A11 n11 c11, .slice A12 n12 c12, .slice A13 n13 c13, .map (some M14), iV p15]]) ?_ ?_
 ·refine av ?_
  obtain ⟨y18, hy18, h⟩ := aa h
  refine fb (t := [(0, pV B1 0), (2, .bool false), (3, iV (a0.met_.length : Int)), (4, .slice A8 n8 c8)]) ?_ gX (ac _)
  refine fo (by kernel_rfl) 12 [] [9, 10, 11] [16, 17, 18, 19, 20, 21, 22, 23, 24, 25, 26, 27] [[], [0], [1], [2], [], [4], [5], [6], [3, 7], [8], [9], []] [aV (pV B1 0),
 aV (pV B1 0),
 aV (pV B1 2),
 aV (.slice A4 n4 c4),
 aV (pV B1 0),
 aV (pV B1 0),
 aV (pV B1 3),
 aV (.slice A5 n5 c5),
 aX1 (fun (B17 : Nat) => .slice (some ⟨B17, 0, none⟩) 2 2) (fun B17 => [aq B17 31 [.slice A4 n4 c4, .slice A5 n5 c5]]),
 aX3 (fun (A20 : Option Addr) (n20 c20 : Nat) => .slice A20 n20 c20) (fun A20 n20 c20 => [bN A20 n20 c20 y18]),
 aV (iV (y18.length : Int)),
 aV (iV 0)] [] (ac _) (gH) (by kernel_rfl) rfl rfl ?_ ?_ ?_
  ·exact gG
  ·refine ae rfl ?_ ?_
   ·exact bj (aI rfl) rfl (aD rfl (ac _))
   refine ae rfl ?_ ?_
   ·intro A20 n20 c20
    exact bW (az 0 rfl aM rfl Try.underlying31) rfl (aD rfl (ac _))
   refine ae rfl ?_ ?_
   ·intro B17
    refine jy (al (o7 hy18) Bo rfl (mem_cons (kw (i := 0) rfl) (mem_cons (am (i := 4) rfl rfl) (mem_cons (cC (i := 6) rfl) aj))) nu) rfl ?_
    rintro _ _ ⟨_, ⟨A19, n19, c19, rfl, rfl⟩, rfl⟩
    exact ig A19 n19 c19 (ac _)
   refine ae rfl ?_ ?_
   ·refine jy (nD (cs := [.slice A4 n4 c4, .slice A5 n5 c5]) rfl (yi _ _ _ _ _ _)) rfl ?_
    rintro _ _ ⟨B16, rfl, rfl⟩
    exact Co B16 (ac _)
   refine ae rfl ?_ ?_
   ·exact bW (bd 4 rfl rfl iD rfl) rfl (aD rfl (ac _))
   refine ae rfl ?_ ?_
   ·exact bj (cK rfl jJ) rfl (aD rfl (ac _))
   refine ae rfl ?_ ?_
   ·exact bj (cx rfl) rfl (aD rfl (ac _))
   refine ae rfl ?_ ?_
   ·exact bj (aI rfl) rfl (aD rfl (ac _))
   refine ae rfl ?_ ?_
   ·exact bW (bd 4 rfl rfl iD rfl) rfl (aD rfl (ac _))
   refine ae rfl ?_ ?_
   ·exact bj (cK rfl xc) rfl (aD rfl (ac _))
   refine ae rfl ?_ ?_
   ·exact bj (cx rfl) rfl (aD rfl (ac _))
   refine ae rfl ?_ ?_
   ·exact bj (aI rfl) rfl (aD rfl (ac _))
   exact db
  intro A20 n20 c20
  refine jN (t := [(25, .slice A20 n20 c20), (26, iV (y18.length : Int)), (27, iV 0), (0, pV B1 0), (2, .bool false), (3, iV (a0.met_.length : Int)), (4, .slice A8 n8 c8)]) (L' := [bN A20 n20 c20 y18, bN A8 n8 c8 y7, aR A2 n2 c2 a0.m_.Young, aR A3 n3 c3 a0.m_.Old, ca A4 n4 c4 a0.kept_, aq B1 61 [.slice A2 n2 c2, .slice A3 n3 c3, .slice A4 n4 c4, .slice A5 n5 c5, .map (some M6), iV a0.next_], bN A5 n5 c5 a0.met_, bw dT eM M6 a0.seen_]) ?_ gX (ac _)
  refine gM (by kernel_rfl) ?_
  refine run ?_
  refine bc (fun m s L => ∃ p22 p23 p24 p25 p26 p27 p28 A23 n23 c23 A24 n24 c24 A25 n25 c25 A26 n26 c26 M27, minor_meeter_open_l21 N a0 y18 y7 m p22 p23 p24 p25 p26 p27 p28 = some r ∧ s = [(0, pV B1 0), (2, .bool false), (3, iV (a0.met_.length : Int)), (4, .slice A8 n8 c8), (25, .slice A20 n20 c20), (26, iV (y18.length : Int)), (27, iV p22)] ∧ L = [bN A8 n8 c8 y7, bN A20 n20 c20 y18, aR A23 n23 c23 p23, aR A24 n24 c24 p24, ca A25 n25 c25 p25, bN A26 n26 c26 p26, bw dT eM M27 p27, aq B1 61 [.slice A23 n23 c23, .slice A24 n24 c24, .slice A25 n25 c25, .slice A26 n26 c26, .map (some M27), iV p28]]) N _ _ ⟨0, a0.m_.Young, a0.m_.Old, a0.kept_, a0.met_, a0.seen_, a0.next_, A2, n2, c2, A3, n3, c3, A4, n4, c4, A5, n5, c5, M6, h, rfl, rfl⟩ sA (ab [1, 0, 2, 3, 4, 6, 7, 5] 8 rfl rfl) ?_
  rintro (_ | m21) _ _ ⟨p22, p23, p24, p25, p26, p27, p28, A23, n23, c23, A24, n24, c24, A25, n25, c25, A26, n26, c26, M27, h, rfl, rfl⟩
  ·exact aA h
  rw [minor_meeter_open_l21.eq_2] at h
  refine run ?_
  refine av ?_
  refine ar rfl (fun g29 => ?_) (fun g29 => ?_)
  ·replace h := ag g29 h
   refine run ?_
   refine aL (fun s L => ∃ p31 p32 p33 p34 p35 p36 A31 n31 c31 A32 n32 c32 A33 n33 c33 A34 n34 c34 M35, du N (minor_meeter_open_l21 N a0 y18 y7 m21) a0 y18 p22 y7 p31 p32 p33 p34 p35 p36 = some r ∧ s = [(0, pV B1 0), (2, .bool false), (3, iV (a0.met_.length : Int)), (4, .slice A8 n8 c8), (25, .slice A20 n20 c20), (26, iV (y18.length : Int)), (27, iV p22)] ∧ L = [bN A8 n8 c8 y7, bN A20 n20 c20 y18, aR A31 n31 c31 p31, aR A32 n32 c32 p32, ca A33 n33 c33 p33, bN A34 n34 c34 p34, bw dT eM M35 p35, aq B1 61 [.slice A31 n31 c31, .slice A32 n32 c32, .slice A33 n33 c33, .slice A34 n34 c34, .map (some M35), iV p36]]) ?_ ?_
   ·refine run ?_
    obtain ⟨x37, hx37, h⟩ := aa h
    obtain ⟨lx37, ux37, hx37⟩ := ap hx37
    refine gR (aC 1 rfl aM rfl rfl Try.underlying31 eH lx37 ux37) ?_
    refine gR (aX (u := iV x37) 1 rfl aM rfl hx37 dv (fun _ _ _ h => by rw [show _ = _ from h]; rfl)) ?_
    refine run ?_
    obtain ⟨y38, hy38, h⟩ := aa h
    refine gD (cg (cJ hy38) rI rfl (bO [2, 3, 4] [7, 5, 6] [0, 1, 2, 3, 4] 8 rfl)) ?_
    rintro _ _ ⟨_, ⟨A39, n39, c39, A40, n40, c40, rfl, rfl⟩, rfl⟩
    refine run ?_
    obtain ⟨y41, hy41, h⟩ := aa h
    refine gD (al (rP hy41) Cp rfl (mem_cons (am (i := 0) rfl rfl) (mem_cons (am (i := 1) rfl rfl) (mem_cons (cC (i := 5) rfl) aj))) qb) ?_
    rintro _ _ ⟨_, ⟨A42, n42, c42, rfl, rfl⟩, rfl⟩
    refine gR (az 0 rfl aM rfl Try.underlying31) ?_
    refine run ?_
    refine bc (fun m s L => ∃ p44 p45 p46 p47 p48 p49 p50 A45 n45 c45 A46 n46 c46 A47 n47 c47 A48 n48 c48 M49, minor_meeter_open_l43 N (minor_meeter_open_l21 N a0 y18 y7 m21) a0 y18 p22 y41 y7 m p44 p45 p46 p47 p48 p49 p50 = some r ∧ s = [(0, pV B1 0), (2, .bool false), (3, iV (a0.met_.length : Int)), (4, .slice A8 n8 c8), (25, .slice A20 n20 c20), (26, iV (y18.length : Int)), (27, iV p22), (35, .slice A42 n42 c42), (36, iV (y41.length : Int)), (37, iV p44)] ∧ L = [bN A8 n8 c8 y7, bN A20 n20 c20 y18, bN A42 n42 c42 y41, aR A45 n45 c45 p45, aR A46 n46 c46 p46, ca A47 n47 c47 p47, bN A48 n48 c48 p48, bw dT eM M49 p49, aq B1 61 [.slice A45 n45 c45, .slice A46 n46 c46, .slice A47 n47 c47, .slice A48 n48 c48, .map (some M49), iV p50]]) N _ _ ⟨0, p23, p24, p25, p26, p27, p28, A23, n23, c23, A24, n24, c24, A25, n25, c25, A26, n26, c26, M27, h, rfl, rfl⟩ sA (ab [6, 7, 0, 8, 9, 10, 4, 5, 3] 11 rfl rfl) ?_
    rintro (_ | m43) _ _ ⟨p44, p45, p46, p47, p48, p49, p50, A45, n45, c45, A46, n46, c46, A47, n47, c47, A48, n48, c48, M49, h, rfl, rfl⟩
    ·exact aA h
    rw [minor_meeter_open_l43.eq_2] at h
    refine run ?_
    refine av ?_
    refine ar rfl (fun g51 => ?_) (fun g51 => ?_)
    ·replace h := ag g51 h
     refine run ?_
     refine av ?_
     refine run ?_
     obtain ⟨x52, hx52, h⟩ := aa h
     obtain ⟨lx52, ux52, hx52⟩ := ap hx52
     refine gR (aC 2 rfl aM rfl rfl Try.underlying31 eH lx52 ux52) ?_
     refine gR (aX (u := iV x52) 2 rfl aM rfl hx52 dv (fun _ _ _ h => by rw [show _ = _ from h]; rfl)) ?_
     refine run ?_
     obtain ⟨y53, hy53, h⟩ := aa h
     refine gD (cg (dG hy53) tT rfl (bO [3, 4, 5] [8, 6, 7] [0, 1, 2, 3, 4, 5] 9 rfl)) ?_
     rintro _ _ ⟨_, ⟨A54, n54, c54, A55, n55, c55, A56, n56, c56, A57, n57, c57, M58, rfl, rfl⟩, rfl⟩
     refine run ?_
     obtain ⟨q59, h⟩ := ao h
     refine gE (aN rfl rfl q59.1 q59.2) ?_
     refine run ?_
     exact ⟨m43, _, _, Nat.lt_succ_self _, ⟨p44 + 1, y53.m_.Young, y53.m_.Old, y53.kept_, y53.met_, y53.seen_, y53.next_, A54, n54, c54, A55, n55, c55, A56, n56, c56, A57, n57, c57, M58, h, rfl, rfl⟩, sA, ab [6, 7, 8, 1, 2, 3, 4, 5, 0] 12 rfl rfl⟩
    replace h := ah g51 h
    refine run ?_
    exact ⟨_, _, ⟨p45, p46, p47, p48, p49, p50, A45, n45, c45, A46, n46, c46, A47, n47, c47, A48, n48, c48, M49, h, rfl, rfl⟩, sA, ab [0, 1, 3, 4, 5, 6, 7, 8] 9 rfl rfl⟩
   rintro _ _ ⟨p31, p32, p33, p34, p35, p36, A31, n31, c31, A32, n32, c32, A33, n33, c33, A34, n34, c34, M35, h, rfl, rfl⟩
   refine cN ?_
   obtain ⟨q60, h⟩ := ao h
   refine gE (aN rfl rfl q60.1 q60.2) ?_
   refine run ?_
   exact ⟨m21, _, _, Nat.lt_succ_self _, ⟨p22 + 1, p31, p32, p33, p34, p35, p36, A31, n31, c31, A32, n32, c32, A33, n33, c33, A34, n34, c34, M35, h, rfl, rfl⟩, sA, ab [0, 1, 2, 3, 4, 5, 6, 7] 8 rfl rfl⟩
  replace h := ah g29 h
  refine run ?_
  exact ⟨_, _, ⟨p23, p24, p25, p26, p27, p28, A23, n23, c23, A24, n24, c24, A25, n25, c25, A26, n26, c26, M27, h, rfl, rfl⟩, sA, ab [2, 3, 4, 5, 6, 7] 8 rfl rfl⟩
 rintro _ _ ⟨p10, p11, p12, p13, p14, p15, A10, n10, c10, A11, n11, c11, A12, n12, c12, A13, n13, c13, M14, h, rfl, rfl⟩
 refine run ?_
 refine gR (az 3 rfl aM rfl Try.underlying31) ?_
 refine run ?_
 obtain rfl := ak h
 exact aB rfl rfl (ab [5, 0, 1, 2, 3, 4] 6 rfl rfl) ⟨_, _, _, _, _, _, _, _, _, _, _, _, _, rfl, rfl⟩
def jR (N : Nat) (p98 : (List DCell)) (p99 : (List DCell)) (p100 : (List Int)) (p101 : (List Int)) (p102 : (List (Int × Bool))) (p103 : Int) : Option DMeeter :=
 some (⟨(⟨p98, p99⟩ : DMemory), p100, p101, p102, p103⟩ : DMeeter)
def minor_all_l104 (N : Nat) : Nat → (List DCell) → (List DCell) → (List Int) → (List Int) → (List (Int × Bool)) → Int → Option DMeeter
 | 0, _, _, _, _, _, _ => none
 | m104 + 1, p105, p106, p107, p108, p109, p110 => (cV N (⟨(⟨p105, p106⟩ : DMemory), p107, p108, p109, p110⟩ : DMeeter)).bind fun y111 => bif y111.1 then ((cr N y111.2).bind fun y118 => (minor_all_l104 N m104) y118.m_.Young y118.m_.Old y118.kept_ y118.met_ y118.seen_ y118.next_) else (jR N y111.2.m_.Young y111.2.m_.Old y111.2.kept_ y111.2.met_ y111.2.seen_ y111.2.next_)
def jS (N : Nat) (p45 : (List DCell)) (p46 : (List DCell)) (p47 : (List Int)) (p48 : (List Int)) (p49 : (List (Int × Bool))) (p50 : Int) : Option DMeeter :=
 (cr N (⟨(⟨p45, p46⟩ : DMemory), p47, p48, p49, p50⟩ : DMeeter)).bind fun y91 => minor_all_l104 N N y91.m_.Young y91.m_.Old y91.kept_ y91.met_ y91.seen_ y91.next_
def gS (N : Nat) (kb51 : Int → (List DCell) → (List DCell) → (List Int) → (List Int) → (List (Int × Bool)) → Int → Option DMeeter) (a2 : (List Int)) (p52 : Int) (p61 : (List DCell)) (p62 : (List DCell)) (p63 : (List Int)) (p64 : (List Int)) (p65 : (List (Int × Bool))) (p66 : Int) : Option DMeeter :=
 bD (aK (p52 + 1)) (kb51 (p52 + 1) p61 p62 p63 p64 p65 p66)
def minor_all_l73 (N : Nat) (kb51 : Int → (List DCell) → (List DCell) → (List Int) → (List Int) → (List (Int × Bool)) → Int → Option DMeeter) (a2 : (List Int)) (p52 : Int) (y71 : ((List Int))) : Nat → Int → (List DCell) → (List DCell) → (List Int) → (List Int) → (List (Int × Bool)) → Int → Option DMeeter
 | 0, _, _, _, _, _, _, _ => none
 | m73 + 1, p74, p75, p76, p77, p78, p79, p80 => bif decide (p74 < (y71.length : Int)) then ((aH y71 p74).bind fun x82 => (br N (⟨(⟨p75, p76⟩ : DMemory), p77, p78, p79, p80⟩ : DMeeter) x82).bind fun y83 => bD (aK (p74 + 1)) ((minor_all_l73 N kb51 a2 p52 y71 m73) (p74 + 1) y83.m_.Young y83.m_.Old y83.kept_ y83.met_ y83.seen_ y83.next_)) else (gS N kb51 a2 p52 p75 p76 p77 p78 p79 p80)
def minor_all_l51 (N : Nat) (a2 : (List Int)) : Nat → Int → (List DCell) → (List DCell) → (List Int) → (List Int) → (List (Int × Bool)) → Int → Option DMeeter
 | 0, _, _, _, _, _, _, _ => none
 | m51 + 1, p52, p53, p54, p55, p56, p57, p58 => bif decide (p52 < (a2.length : Int)) then ((aH a2 p52).bind fun x67 => (be N (⟨(⟨p53, p54⟩ : DMemory), p55, p56, p57, p58⟩ : DMeeter) x67).bind fun y68 => (eo N y68).bind fun y71 => minor_all_l73 N (minor_all_l51 N a2 m51) a2 p52 y71 N 0 p53 p54 p55 p56 p57 p58) else (jS N p53 p54 p55 p56 p57 p58)
def kQ (N : Nat) (a2 : (List Int)) (p9 : (List DCell)) (p10 : (List DCell)) (p11 : (List Int)) (p12 : (List Int)) (p13 : (List (Int × Bool))) (p14 : Int) : Option DMeeter :=
 minor_all_l51 N a2 N 0 p9 p10 p11 p12 p13 p14
def gT (N : Nat) (kb15 : Int → (List DCell) → (List DCell) → (List Int) → (List Int) → (List (Int × Bool)) → Int → Option DMeeter) (a1 : (List DValue)) (p16 : Int) (a2 : (List Int)) (p27 : (List DCell)) (p28 : (List DCell)) (p29 : (List Int)) (p30 : (List Int)) (p31 : (List (Int × Bool))) (p32 : Int) : Option DMeeter :=
 bD (aK (p16 + 1)) (kb15 (p16 + 1) p27 p28 p29 p30 p31 p32)
def minor_all_l15 (N : Nat) (a1 : (List DValue)) (a2 : (List Int)) : Nat → Int → (List DCell) → (List DCell) → (List Int) → (List Int) → (List (Int × Bool)) → Int → Option DMeeter
 | 0, _, _, _, _, _, _, _ => none
 | m15 + 1, p16, p17, p18, p19, p20, p21, p22 => bif decide (p16 < (a1.length : Int)) then ((aH a1 p16).bind fun x33 => (eu N x33).bind fun y35 => bif y35.2 then ((br N (⟨(⟨p17, p18⟩ : DMemory), p19, p20, p21, p22⟩ : DMeeter) y35.1).bind fun y37 => gT N (minor_all_l15 N a1 a2 m15) a1 p16 a2 y37.m_.Young y37.m_.Old y37.kept_ y37.met_ y37.seen_ y37.next_) else (gT N (minor_all_l15 N a1 a2 m15) a1 p16 a2 p17 p18 p19 p20 p21 p22)) else (kQ N a2 p17 p18 p19 p20 p21 p22)
def fY (N : Nat) (a0 : DMemory) (a1 : (List DValue)) (a2 : (List Int)) : Option DMeeter :=
 minor_all_l15 N a1 a2 N 0 a0.Young a0.Old a2 [] ([] : (List (Int × Bool))) 0
theorem tA {N : Nat} {a0 : DMemory} {a1 : (List DValue)} {a2 : (List Int)} {r : DMeeter} (h : fY N a0 a1 a2 = some r) : Okc Try.prog 32 [.agg #[.slice A1 n1 c1, .slice A2 n2 c2], .slice A3 n3 c3, .slice A4 n4 c4] ([aR A1 n1 c1 a0.Young, aR A2 n2 c2 a0.Old, aF A3 n3 c3 a1, ca A4 n4 c4 a2]) (fun u post => ∃ B0 A1 n1 c1 A2 n2 c2 A3 n3 c3 A4 n4 c4 M5, u = pV B0 0 ∧ post = [aq B0 61 [.slice A1 n1 c1, .slice A2 n2 c2, .slice A3 n3 c3, .slice A4 n4 c4, .map (some M5), iV r.next_], aR A1 n1 c1 r.m_.Young, aR A2 n2 c2 r.m_.Old, ca A3 n3 c3 r.kept_, bN A4 n4 c4 r.met_, bw dT eM M5 r.seen_]) := by
 refine bz Try.func32 rfl rfl ?_
 simp only [aQ]
 refine run ?_
 refine gD (aU rfl rfl) ?_
 rintro _ _ ⟨B5, rfl, rfl⟩
 refine run ?_
 refine gR (aE (us := [.slice A1 n1 c1, .slice A2 n2 c2]) 0 rfl rfl ex rfl) ?_
 refine run ?_
 refine gD (vV (ek := dT) (ev := eM)) ?_
 rintro _ _ ⟨M6, rfl, rfl⟩
 refine gE (dJ rfl (tX _ _ _ _ _ _ _ _ _ _)) ?_
 refine gD (aU rfl rfl) ?_
 rintro _ _ ⟨B7, rfl, rfl⟩
 refine run ?_
 refine aL (fun s L => ∃ p9 p10 p11 p12 p13 p14 A9 n9 c9 A10 n10 c10 A11 n11 c11 A12 n12 c12 M13, kQ N a2 p9 p10 p11 p12 p13 p14 = some r ∧ s = [(2, .slice A4 n4 c4), (6, .pointer none), (7, pV B7 0)] ∧ L = [ca A4 n4 c4 a2, aR A9 n9 c9 p9, aR A10 n10 c10 p10, ca A11 n11 c11 p11, bN A12 n12 c12 p12, bw dT eM M13 p13, aq B7 61 [.slice A9 n9 c9, .slice A10 n10 c10, .slice A11 n11 c11, .slice A12 n12 c12, .map (some M13), iV p14]]) ?_ ?_
 ·refine run ?_
  refine gR (az 5 rfl ai rfl Try.underlying25) ?_
  refine run ?_
  refine bc (fun m s L => ∃ p16 p17 p18 p19 p20 p21 p22 A17 n17 c17 A18 n18 c18 A19 n19 c19 A20 n20 c20 M21, minor_all_l15 N a1 a2 m p16 p17 p18 p19 p20 p21 p22 = some r ∧ s = [(2, .slice A4 n4 c4), (6, .pointer none), (7, pV B7 0), (21, .slice A3 n3 c3), (22, iV (a1.length : Int)), (23, iV p16)] ∧ L = [ca A4 n4 c4 a2, aF A3 n3 c3 a1, aR A17 n17 c17 p17, aR A18 n18 c18 p18, ca A19 n19 c19 p19, bN A20 n20 c20 p20, bw dT eM M21 p21, aq B7 61 [.slice A17 n17 c17, .slice A18 n18 c18, .slice A19 n19 c19, .slice A20 n20 c20, .map (some M21), iV p22]]) N _ _ ⟨0, a0.Young, a0.Old, a2, [], ([] : (List (Int × Bool))), 0, A1, n1, c1, A2, n2, c2, A4, n4, c4, none, 0, 0, M6, h, rfl, rfl⟩ sA ((cA 6 rfl rfl).trans ((cz (ge .i64) 3 _).trans (ab [8, 7, 5, 6, 1, 0, 3, 2] 9 rfl rfl))) ?_
  rintro (_ | m15) _ _ ⟨p16, p17, p18, p19, p20, p21, p22, A17, n17, c17, A18, n18, c18, A19, n19, c19, A20, n20, c20, M21, h, rfl, rfl⟩
  ·exact aA h
  rw [minor_all_l15.eq_2] at h
  refine run ?_
  refine av ?_
  refine ar rfl (fun g25 => ?_) (fun g25 => ?_)
  ·replace h := ag g25 h
   refine run ?_
   refine aL (fun s L => ∃ p27 p28 p29 p30 p31 p32 A27 n27 c27 A28 n28 c28 A29 n29 c29 A30 n30 c30 M31, gT N (minor_all_l15 N a1 a2 m15) a1 p16 a2 p27 p28 p29 p30 p31 p32 = some r ∧ s = [(2, .slice A4 n4 c4), (6, .pointer none), (7, pV B7 0), (21, .slice A3 n3 c3), (22, iV (a1.length : Int)), (23, iV p16)] ∧ L = [ca A4 n4 c4 a2, aF A3 n3 c3 a1, aR A27 n27 c27 p27, aR A28 n28 c28 p28, ca A29 n29 c29 p29, bN A30 n30 c30 p30, bw dT eM M31 p31, aq B7 61 [.slice A27 n27 c27, .slice A28 n28 c28, .slice A29 n29 c29, .slice A30 n30 c30, .map (some M31), iV p32]]) ?_ ?_
   ·refine run ?_
    obtain ⟨x33, hx33, h⟩ := aa h
    obtain ⟨lx33, ux33, hx33⟩ := ap hx33
    refine gR (aC 1 rfl ai rfl rfl Try.underlying25 aG lx33 ux33) ?_
    refine gR (aO (us := [iV x33.Kind, iV x33.N, .string x33.S]) 1 rfl ai rfl hx33 bp (fun _ _ _ h => by rw [show _ = _ from h]; rfl)) ?_
    refine gD (aS gz rfl) ?_
    rintro _ _ ⟨B34, rfl, rfl⟩
    refine gO (ay (us := [iV x33.Kind, iV x33.N, .string x33.S]) (cs' := [iV x33.Kind, iV x33.N, .string x33.S]) 0 rfl rfl rfl rfl aG rfl rfl rfl) ?_
    rintro _ _ rfl
    refine run ?_
    refine gR (aE (us := [iV x33.Kind, iV x33.N, .string x33.S]) 0 rfl rfl bp rfl) ?_
    obtain ⟨y35, hy35, h⟩ := aa h
    refine gD (al (kr hy35) zL rfl (aj) jk) ?_
    rintro _ _ ⟨_, ⟨rfl, rfl⟩, rfl⟩
    refine run ?_
    refine ar rfl (fun g36 => ?_) (fun g36 => ?_)
    ·replace h := ag g36 h
     refine run ?_
     obtain ⟨y37, hy37, h⟩ := aa h
     refine gD (cg (dG hy37) tT rfl (bO [3, 4, 5] [8, 6, 7] [0, 1, 2, 3, 4, 5] 9 rfl)) ?_
     rintro _ _ ⟨_, ⟨A38, n38, c38, A39, n39, c39, A40, n40, c40, A41, n41, c41, M42, rfl, rfl⟩, rfl⟩
     refine run ?_
     exact ⟨_, _, ⟨y37.m_.Young, y37.m_.Old, y37.kept_, y37.met_, y37.seen_, y37.next_, A38, n38, c38, A39, n39, c39, A40, n40, c40, A41, n41, c41, M42, h, rfl, rfl⟩, sA, ab [7, 8, 1, 2, 3, 4, 5, 0] 12 rfl rfl⟩
    replace h := ah g36 h
    refine run ?_
    exact ⟨_, _, ⟨p17, p18, p19, p20, p21, p22, A17, n17, c17, A18, n18, c18, A19, n19, c19, A20, n20, c20, M21, h, rfl, rfl⟩, sA, ab [1, 2, 3, 4, 5, 6, 7, 8] 9 rfl rfl⟩
   rintro _ _ ⟨p27, p28, p29, p30, p31, p32, A27, n27, c27, A28, n28, c28, A29, n29, c29, A30, n30, c30, M31, h, rfl, rfl⟩
   refine cN ?_
   obtain ⟨q43, h⟩ := ao h
   refine gE (aN rfl rfl q43.1 q43.2) ?_
   refine run ?_
   exact ⟨m15, _, _, Nat.lt_succ_self _, ⟨p16 + 1, p27, p28, p29, p30, p31, p32, A27, n27, c27, A28, n28, c28, A29, n29, c29, A30, n30, c30, M31, h, rfl, rfl⟩, sA, ab [0, 1, 2, 3, 4, 5, 6, 7] 8 rfl rfl⟩
  replace h := ah g25 h
  refine run ?_
  exact ⟨_, _, ⟨p17, p18, p19, p20, p21, p22, A17, n17, c17, A18, n18, c18, A19, n19, c19, A20, n20, c20, M21, h, rfl, rfl⟩, sA, ab [0, 2, 3, 4, 5, 6, 7] 8 rfl rfl⟩
 rintro _ _ ⟨p9, p10, p11, p12, p13, p14, A9, n9, c9, A10, n10, c10, A11, n11, c11, A12, n12, c12, M13, h, rfl, rfl⟩
 refine aL (fun s L => ∃ p45 p46 p47 p48 p49 p50 A45 n45 c45 A46 n46 c46 A47 n47 c47 A48 n48 c48 M49, jS N p45 p46 p47 p48 p49 p50 = some r ∧ s = [(6, .pointer none), (7, pV B7 0)] ∧ L = [aR A45 n45 c45 p45, aR A46 n46 c46 p46, ca A47 n47 c47 p47, bN A48 n48 c48 p48, bw dT eM M49 p49, aq B7 61 [.slice A45 n45 c45, .slice A46 n46 c46, .slice A47 n47 c47, .slice A48 n48 c48, .map (some M49), iV p50]]) ?_ ?_
 ·refine run ?_
  refine gR (az 0 rfl ai rfl Try.underlying31) ?_
  refine run ?_
  refine bc (fun m s L => ∃ p52 p53 p54 p55 p56 p57 p58 A53 n53 c53 A54 n54 c54 A55 n55 c55 A56 n56 c56 M57, minor_all_l51 N a2 m p52 p53 p54 p55 p56 p57 p58 = some r ∧ s = [(6, .pointer none), (7, pV B7 0), (37, .slice A4 n4 c4), (38, iV (a2.length : Int)), (39, iV p52)] ∧ L = [ca A4 n4 c4 a2, aR A53 n53 c53 p53, aR A54 n54 c54 p54, ca A55 n55 c55 p55, bN A56 n56 c56 p56, bw dT eM M57 p57, aq B7 61 [.slice A53 n53 c53, .slice A54 n54 c54, .slice A55 n55 c55, .slice A56 n56 c56, .map (some M57), iV p58]]) N _ _ ⟨0, p9, p10, p11, p12, p13, p14, A9, n9, c9, A10, n10, c10, A11, n11, c11, A12, n12, c12, M13, h, rfl, rfl⟩ sA (ab [0, 1, 2, 3, 4, 5, 6] 7 rfl rfl) ?_
  rintro (_ | m51) _ _ ⟨p52, p53, p54, p55, p56, p57, p58, A53, n53, c53, A54, n54, c54, A55, n55, c55, A56, n56, c56, M57, h, rfl, rfl⟩
  ·exact aA h
  rw [minor_all_l51.eq_2] at h
  refine run ?_
  refine av ?_
  refine ar rfl (fun g59 => ?_) (fun g59 => ?_)
  ·replace h := ag g59 h
   refine run ?_
   refine aL (fun s L => ∃ p61 p62 p63 p64 p65 p66 A61 n61 c61 A62 n62 c62 A63 n63 c63 A64 n64 c64 M65, gS N (minor_all_l51 N a2 m51) a2 p52 p61 p62 p63 p64 p65 p66 = some r ∧ s = [(6, .pointer none), (7, pV B7 0), (37, .slice A4 n4 c4), (38, iV (a2.length : Int)), (39, iV p52)] ∧ L = [ca A4 n4 c4 a2, aR A61 n61 c61 p61, aR A62 n62 c62 p62, ca A63 n63 c63 p63, bN A64 n64 c64 p64, bw dT eM M65 p65, aq B7 61 [.slice A61 n61 c61, .slice A62 n62 c62, .slice A63 n63 c63, .slice A64 n64 c64, .map (some M65), iV p66]]) ?_ ?_
   ·refine run ?_
    obtain ⟨x67, hx67, h⟩ := aa h
    obtain ⟨lx67, ux67, hx67⟩ := ap hx67
    refine gR (aC 0 rfl ai rfl rfl Try.underlying31 eH lx67 ux67) ?_
    refine gR (aX (u := iV x67) 0 rfl ai rfl hx67 dv (fun _ _ _ h => by rw [show _ = _ from h]; rfl)) ?_
    refine run ?_
    obtain ⟨y68, hy68, h⟩ := aa h
    refine gD (cg (cJ hy68) rI rfl (bO [1, 2, 3] [6, 4, 5] [0, 1, 2, 3] 7 rfl)) ?_
    rintro _ _ ⟨_, ⟨A69, n69, c69, A70, n70, c70, rfl, rfl⟩, rfl⟩
    refine ck ([aF A69 n69 c69 y68.Slots, aF A70 n70 c70 y68.More, aq B7 61 [.slice A53 n53 c53, .slice A54 n54 c54, .slice A55 n55 c55, .slice A56 n56 c56, .map (some M57), iV p58], bN A56 n56 c56 p56, bw dT eM M57 p57, ca A4 n4 c4 a2, aR A53 n53 c53 p53, aR A54 n54 c54 p54, ca A55 n55 c55 p55]) rfl ?_
    obtain ⟨y71, hy71, h⟩ := aa h
    refine gD (al (ka hy71) wu rfl (mem_cons (am (i := 0) rfl rfl) (mem_cons (am (i := 1) rfl rfl) aj)) iz) ?_
    rintro _ _ ⟨_, ⟨A72, n72, c72, rfl, rfl⟩, rfl⟩
    refine gR (az 0 rfl aM rfl Try.underlying31) ?_
    refine run ?_
    refine bc (fun m s L => ∃ p74 p75 p76 p77 p78 p79 p80 A75 n75 c75 A76 n76 c76 A77 n77 c77 A78 n78 c78 M79, minor_all_l73 N (minor_all_l51 N a2 m51) a2 p52 y71 m p74 p75 p76 p77 p78 p79 p80 = some r ∧ s = [(6, .pointer none), (7, pV B7 0), (37, .slice A4 n4 c4), (38, iV (a2.length : Int)), (39, iV p52), (46, .slice A72 n72 c72), (47, iV (y71.length : Int)), (48, iV p74)] ∧ L = [ca A4 n4 c4 a2, bN A72 n72 c72 y71, aR A75 n75 c75 p75, aR A76 n76 c76 p76, ca A77 n77 c77 p77, bN A78 n78 c78 p78, bw dT eM M79 p79, aq B7 61 [.slice A75 n75 c75, .slice A76 n76 c76, .slice A77 n77 c77, .slice A78 n78 c78, .map (some M79), iV p80]]) N _ _ ⟨0, p53, p54, p55, p56, p57, p58, A53, n53, c53, A54, n54, c54, A55, n55, c55, A56, n56, c56, M57, h, rfl, rfl⟩ sA (ab [6, 0, 7, 8, 9, 4, 5, 3] 10 rfl rfl) ?_
    rintro (_ | m73) _ _ ⟨p74, p75, p76, p77, p78, p79, p80, A75, n75, c75, A76, n76, c76, A77, n77, c77, A78, n78, c78, M79, h, rfl, rfl⟩
    ·exact aA h
    rw [minor_all_l73.eq_2] at h
    refine run ?_
    refine av ?_
    refine ar rfl (fun g81 => ?_) (fun g81 => ?_)
    ·replace h := ag g81 h
     refine run ?_
     refine av ?_
     refine run ?_
     obtain ⟨x82, hx82, h⟩ := aa h
     obtain ⟨lx82, ux82, hx82⟩ := ap hx82
     refine gR (aC 1 rfl aM rfl rfl Try.underlying31 eH lx82 ux82) ?_
     refine gR (aX (u := iV x82) 1 rfl aM rfl hx82 dv (fun _ _ _ h => by rw [show _ = _ from h]; rfl)) ?_
     refine run ?_
     obtain ⟨y83, hy83, h⟩ := aa h
     refine gD (cg (dG hy83) tT rfl (bO [2, 3, 4] [7, 5, 6] [0, 1, 2, 3, 4] 8 rfl)) ?_
     rintro _ _ ⟨_, ⟨A84, n84, c84, A85, n85, c85, A86, n86, c86, A87, n87, c87, M88, rfl, rfl⟩, rfl⟩
     refine run ?_
     obtain ⟨q89, h⟩ := ao h
     refine gE (aN rfl rfl q89.1 q89.2) ?_
     refine run ?_
     exact ⟨m73, _, _, Nat.lt_succ_self _, ⟨p74 + 1, y83.m_.Young, y83.m_.Old, y83.kept_, y83.met_, y83.seen_, y83.next_, A84, n84, c84, A85, n85, c85, A86, n86, c86, A87, n87, c87, M88, h, rfl, rfl⟩, sA, ab [6, 7, 1, 2, 3, 4, 5, 0] 11 rfl rfl⟩
    replace h := ah g81 h
    refine run ?_
    exact ⟨_, _, ⟨p75, p76, p77, p78, p79, p80, A75, n75, c75, A76, n76, c76, A77, n77, c77, A78, n78, c78, M79, h, rfl, rfl⟩, sA, ab [0, 2, 3, 4, 5, 6, 7] 8 rfl rfl⟩
   rintro _ _ ⟨p61, p62, p63, p64, p65, p66, A61, n61, c61, A62, n62, c62, A63, n63, c63, A64, n64, c64, M65, h, rfl, rfl⟩
   refine cN ?_
   obtain ⟨q90, h⟩ := ao h
   refine gE (aN rfl rfl q90.1 q90.2) ?_
   refine run ?_
   exact ⟨m51, _, _, Nat.lt_succ_self _, ⟨p52 + 1, p61, p62, p63, p64, p65, p66, A61, n61, c61, A62, n62, c62, A63, n63, c63, A64, n64, c64, M65, h, rfl, rfl⟩, sA, ab [0, 1, 2, 3, 4, 5, 6] 7 rfl rfl⟩
  replace h := ah g59 h
  refine run ?_
  exact ⟨_, _, ⟨p53, p54, p55, p56, p57, p58, A53, n53, c53, A54, n54, c54, A55, n55, c55, A56, n56, c56, M57, h, rfl, rfl⟩, sA, ab [1, 2, 3, 4, 5, 6] 7 rfl rfl⟩
 rintro _ _ ⟨p45, p46, p47, p48, p49, p50, A45, n45, c45, A46, n46, c46, A47, n47, c47, A48, n48, c48, M49, h, rfl, rfl⟩
 refine run ?_
 obtain ⟨y91, hy91, h⟩ := aa h
 refine gD (cg (fX hy91) zI rfl (bO [0, 1, 2] [5, 3, 4] [0, 1, 2] 6 rfl)) ?_
 rintro _ _ ⟨_, ⟨A92, n92, c92, A93, n93, c93, A94, n94, c94, A95, n95, c95, M96, rfl, rfl⟩, rfl⟩
 refine run ?_
 refine aL (fun s L => ∃ p98 p99 p100 p101 p102 p103 A98 n98 c98 A99 n99 c99 A100 n100 c100 A101 n101 c101 M102, jR N p98 p99 p100 p101 p102 p103 = some r ∧ s = [(6, .pointer none), (7, pV B7 0)] ∧ L = [aR A98 n98 c98 p98, aR A99 n99 c99 p99, ca A100 n100 c100 p100, bN A101 n101 c101 p101, bw dT eM M102 p102, aq B7 61 [.slice A98 n98 c98, .slice A99 n99 c99, .slice A100 n100 c100, .slice A101 n101 c101, .map (some M102), iV p103]]) ?_ ?_
 ·refine ep ?_
  refine bc (fun m s L => ∃ p105 p106 p107 p108 p109 p110 A105 n105 c105 A106 n106 c106 A107 n107 c107 A108 n108 c108 M109, minor_all_l104 N m p105 p106 p107 p108 p109 p110 = some r ∧ s = [(6, .pointer none), (7, pV B7 0)] ∧ L = [aR A105 n105 c105 p105, aR A106 n106 c106 p106, ca A107 n107 c107 p107, bN A108 n108 c108 p108, bw dT eM M109 p109, aq B7 61 [.slice A105 n105 c105, .slice A106 n106 c106, .slice A107 n107 c107, .slice A108 n108 c108, .map (some M109), iV p110]]) N _ _ ⟨y91.m_.Young, y91.m_.Old, y91.kept_, y91.met_, y91.seen_, y91.next_, A92, n92, c92, A93, n93, c93, A94, n94, c94, A95, n95, c95, M96, h, rfl, rfl⟩ sA (ab [1, 2, 3, 4, 5, 0] 9 rfl rfl) ?_
  rintro (_ | m104) _ _ ⟨p105, p106, p107, p108, p109, p110, A105, n105, c105, A106, n106, c106, A107, n107, c107, A108, n108, c108, M109, h, rfl, rfl⟩
  ·exact aA h
  rw [minor_all_l104.eq_2] at h
  refine av ?_
  refine run ?_
  obtain ⟨y111, hy111, h⟩ := aa h
  refine gD (cg (lX hy111) Cz rfl (bO [0, 1, 2] [5, 3, 4] [0, 1, 2] 6 rfl)) ?_
  rintro _ _ ⟨_, ⟨A112, n112, c112, A113, n113, c113, A114, n114, c114, A115, n115, c115, M116, rfl, rfl⟩, rfl⟩
  refine ck ([aq B7 61 [.slice A112 n112 c112, .slice A113 n113 c113, .slice A114 n114 c114, .slice A115 n115 c115, .map (some M116), iV y111.2.next_], aR A112 n112 c112 y111.2.m_.Young, aR A113 n113 c113 y111.2.m_.Old, ca A114 n114 c114 y111.2.kept_, bN A115 n115 c115 y111.2.met_, bw dT eM M116 y111.2.seen_, aR A105 n105 c105 p105, aR A106 n106 c106 p106, ca A107 n107 c107 p107]) rfl ?_
  refine run ?_
  refine ar rfl (fun g117 => ?_) (fun g117 => ?_)
  ·replace h := ag g117 h
   refine run ?_
   obtain ⟨y118, hy118, h⟩ := aa h
   refine gD (cg (fX hy118) zI rfl (bO [1, 2, 3] [0, 4, 5] [1, 2, 3, 6, 7, 8] 9 rfl)) ?_
   rintro _ _ ⟨_, ⟨A119, n119, c119, A120, n120, c120, A121, n121, c121, A122, n122, c122, M123, rfl, rfl⟩, rfl⟩
   refine run ?_
   exact ⟨m104, _, _, Nat.lt_succ_self _, ⟨y118.m_.Young, y118.m_.Old, y118.kept_, y118.met_, y118.seen_, y118.next_, A119, n119, c119, A120, n120, c120, A121, n121, c121, A122, n122, c122, M123, h, rfl, rfl⟩, sA, ab [1, 2, 3, 4, 5, 0] 12 rfl rfl⟩
  replace h := ah g117 h
  refine run ?_
  exact ⟨_, _, ⟨y111.2.m_.Young, y111.2.m_.Old, y111.2.kept_, y111.2.met_, y111.2.seen_, y111.2.next_, A112, n112, c112, A113, n113, c113, A114, n114, c114, A115, n115, c115, M116, h, rfl, rfl⟩, sA, ab [1, 2, 3, 4, 5, 0] 9 rfl rfl⟩
 rintro _ _ ⟨p98, p99, p100, p101, p102, p103, A98, n98, c98, A99, n99, c99, A100, n100, c100, A101, n101, c101, M102, h, rfl, rfl⟩
 refine run ?_
 obtain rfl := ak h
 exact aB rfl rfl (ab [5, 0, 1, 2, 3, 4] 6 rfl rfl) ⟨_, _, _, _, _, _, _, _, _, _, _, _, _, _, rfl, rfl⟩
end Go.Proofs.Ytmbaennilhdieaa