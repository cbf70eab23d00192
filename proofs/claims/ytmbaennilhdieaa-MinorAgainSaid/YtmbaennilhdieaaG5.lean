/- Merged texts: part 5. No conditions of their own. -/
import Derived.Test.YtmbaennilhdieaaG4
namespace Go.Proofs.Ytmbaennilhdieaa
variable {A1 A2 A3 A4 A5 : Option Addr} {B1 M6 c1 c2 c3 c4 c5 n1 n2 n3 n4 n5 : Nat}
open Go.RowKit Asn
set_option maxRecDepth 20000
def gk (N : Nat) (a0 : DMeeter) (p8 : (List Int)) : Option (List Int) :=
 some p8
def cQ (N : Nat) (kb9 : (List Int) → Int → Int → Int → Option (List Int)) (a0 : DMeeter) (p13 : Int) (p17 : (List Int)) (p18 : Int) (p19 : Int) : Option (List Int) :=
 bD (aK (p13 + 1)) (kb9 p17 p18 p19 (p13 + 1))
def minor_meeter_places_l9 (N : Nat) (a0 : DMeeter) : Nat → (List Int) → Int → Int → Int → Option (List Int)
 | 0, _, _, _, _ => none
 | m9 + 1, p10, p11, p12, p13 => bif decide (p13 < (a0.met_.length : Int)) then ((aH a0.met_ p13).bind fun x20 => (be N a0 x20).bind fun y21 => bif decide (y21.Age = 0) then (bD (aK (2 * p11)) (bD (aK ((2 * p11) + 1)) (bD (cu (p10.length + ([(2 * p11) + 1] : List Int).length)) (bD (aK (p11 + 1)) (cQ N (minor_meeter_places_l9 N a0 m9) a0 p13 (p10 ++ ([(2 * p11) + 1] : List Int)) (p11 + 1) p12))))) else (bD (aK (2 * p12)) (bD (aK ((2 * p12) + 2)) (bD (cu (p10.length + ([(2 * p12) + 2] : List Int).length)) (bD (aK (p12 + 1)) (cQ N (minor_meeter_places_l9 N a0 m9) a0 p13 (p10 ++ ([(2 * p12) + 2] : List Int)) p11 (p12 + 1))))))) else (gk N a0 p10)
def dt (N : Nat) (a0 : DMeeter) : Option (List Int) :=
 minor_meeter_places_l9 N a0 N [] 0 (a0.m_.Old.length : Int) 0
theorem kP {N : Nat} {a0 : DMeeter} {r : (List Int)} (h : dt N a0 = some r) : Okc Try.prog 33 [pV B1 0] ([aR A2 n2 c2 a0.m_.Young, aR A3 n3 c3 a0.m_.Old, ca A4 n4 c4 a0.kept_, aq B1 61 [.slice A2 n2 c2, .slice A3 n3 c3, .slice A4 n4 c4, .slice A5 n5 c5, .map (some M6), iV a0.next_], bN A5 n5 c5 a0.met_, bw dT eM M6 a0.seen_]) (fun u post => ∃ A0 n0 c0, u = .slice A0 n0 c0 ∧ post = [bN A0 n0 c0 r, aq B1 61 [.slice A2 n2 c2, .slice A3 n3 c3, .slice A4 n4 c4, .slice A5 n5 c5, .map (some M6), iV a0.next_], bN A5 n5 c5 a0.met_, bw dT eM M6 a0.seen_]) := by
 refine bz Try.func33 rfl rfl ?_
 simp only [aQ]
 refine run ?_
 refine av ?_
 refine dY (by kernel_rfl) _ (ac _) ?_
 refine aW 0 rfl (by kernel_rfl) (aI rfl) rfl rfl ?_
 refine aW 1 rfl (by kernel_rfl) (cx rfl) rfl rfl ?_
 refine aW 2 rfl (by kernel_rfl) (kY rfl xd) rfl rfl ?_
 refine aW 3 rfl (by kernel_rfl) (cK rfl jK) rfl rfl ?_
 refine bL 4 rfl (by kernel_rfl) (bd 3 rfl rfl fD rfl) rfl rfl ?_
 refine bL 5 rfl (by kernel_rfl) (az 1 rfl ai rfl Try.underlying22) rfl rfl ?_
 refine aW 6 rfl (by kernel_rfl) (bP rfl) rfl rfl ?_
 refine aW 7 rfl (by kernel_rfl) (bP rfl) rfl rfl ?_
 refine dX (by kernel_rfl) ?_
 refine kO ?_
 refine aL (fun s L => ∃ p8 A8 n8 c8, gk N a0 p8 = some r ∧ s = [(2, .slice none 0 0), (3, .slice A8 n8 c8)] ∧ L = [bN A8 n8 c8 p8, aR A2 n2 c2 a0.m_.Young, aR A3 n3 c3 a0.m_.Old, ca A4 n4 c4 a0.kept_, bN A5 n5 c5 a0.met_, bw dT eM M6 a0.seen_, aq B1 61 [.slice A2 n2 c2, .slice A3 n3 c3, .slice A4 n4 c4, .slice A5 n5 c5, .map (some M6), iV a0.next_]]) ?_ ?_
 ·refine run ?_
  refine gR (az 4 rfl aM rfl Try.underlying31) ?_
  refine run ?_
  refine bc (fun m s L => ∃ p10 p11 p12 p13 A10 n10 c10, minor_meeter_places_l9 N a0 m p10 p11 p12 p13 = some r ∧ s = [(0, pV B1 0), (2, .slice none 0 0), (3, .slice A10 n10 c10), (4, iV p11), (5, iV p12), (17, .slice A5 n5 c5), (18, iV (a0.met_.length : Int)), (19, iV p13)] ∧ L = [bN A10 n10 c10 p10, bN A5 n5 c5 a0.met_, aR A2 n2 c2 a0.m_.Young, aR A3 n3 c3 a0.m_.Old, ca A4 n4 c4 a0.kept_, bw dT eM M6 a0.seen_, aq B1 61 [.slice A2 n2 c2, .slice A3 n3 c3, .slice A4 n4 c4, .slice A5 n5 c5, .map (some M6), iV a0.next_]]) N _ _ ⟨[], 0, (a0.m_.Old.length : Int), 0, none, 0, 0, h, rfl, rfl⟩ sA ((cz (ge .i64) 3 _).trans (ab [0, 5, 1, 2, 3, 6, 4] 7 rfl rfl)) ?_
  rintro (_ | m9) _ _ ⟨p10, p11, p12, p13, A10, n10, c10, h, rfl, rfl⟩
  ·exact aA h
  rw [minor_meeter_places_l9.eq_2] at h
  refine run ?_
  refine av ?_
  refine ar rfl (fun g15 => ?_) (fun g15 => ?_)
  ·replace h := ag g15 h
   refine run ?_
   refine aL (fun s L => ∃ p17 p18 p19 A17 n17 c17, cQ N (minor_meeter_places_l9 N a0 m9) a0 p13 p17 p18 p19 = some r ∧ s = [(0, pV B1 0), (2, .slice none 0 0), (3, .slice A17 n17 c17), (4, iV p18), (5, iV p19), (17, .slice A5 n5 c5), (18, iV (a0.met_.length : Int)), (19, iV p13)] ∧ L = [bN A17 n17 c17 p17, bN A5 n5 c5 a0.met_, aR A2 n2 c2 a0.m_.Young, aR A3 n3 c3 a0.m_.Old, ca A4 n4 c4 a0.kept_, bw dT eM M6 a0.seen_, aq B1 61 [.slice A2 n2 c2, .slice A3 n3 c3, .slice A4 n4 c4, .slice A5 n5 c5, .map (some M6), iV a0.next_]]) ?_ ?_
   ·refine run ?_
    obtain ⟨x20, hx20, h⟩ := aa h
    obtain ⟨lx20, ux20, hx20⟩ := ap hx20
    refine gR (aC 1 rfl aM rfl rfl Try.underlying31 eH lx20 ux20) ?_
    refine gR (aX (u := iV x20) 1 rfl aM rfl hx20 dv (fun _ _ _ h => by rw [show _ = _ from h]; rfl)) ?_
    refine run ?_
    obtain ⟨y21, hy21, h⟩ := aa h
    refine gD (cg (cJ hy21) rI rfl (bO [2, 3, 4] [6, 1, 5] [0, 2, 3, 4] 7 rfl)) ?_
    rintro _ _ ⟨_, ⟨A22, n22, c22, A23, n23, c23, rfl, rfl⟩, rfl⟩
    refine gE (va rfl (zv _ _ _ _ _ _ _ _ _ _)) ?_
    refine run ?_
    refine ar rfl (fun g24 => ?_) (fun g24 => ?_)
    ·replace h := ag g24 h
     refine run ?_
     obtain ⟨q25, h⟩ := ao h
     refine gE (pz rfl rfl q25.1 q25.2) ?_
     obtain ⟨q26, h⟩ := ao h
     refine gE (aN rfl rfl q26.1 q26.2) ?_
     refine gD (bB (R := (ge .i64)) (vss := [[iV ((2 * p11) + 1)]]) (xs := [(2 * p11) + 1]) rfl (fa _) rfl rfl (fun _ _ hr => .cons rfl All2.nil)) ?_
     rintro _ _ ⟨A27, n27, c27, rfl, rfl⟩
     obtain ⟨q28, h⟩ := ao h
     refine gD (bm 6 0 rfl rfl aM rfl rfl Try.underlying31 ui rfl rfl q28) ?_
     rintro _ _ ⟨A29, n29, c29, rfl, rfl⟩
     refine run ?_
     obtain ⟨q30, h⟩ := ao h
     refine gE (aN rfl rfl q30.1 q30.2) ?_
     refine run ?_
     exact ⟨_, _, ⟨p10 ++ ([(2 * p11) + 1] : List Int), p11 + 1, p12, A29, n29, c29, h, rfl, rfl⟩, sA, ab [6, 4, 7, 8, 9, 5, 3] 10 rfl rfl⟩
    replace h := ah g24 h
    refine run ?_
    obtain ⟨q31, h⟩ := ao h
    refine gE (pz rfl rfl q31.1 q31.2) ?_
    obtain ⟨q32, h⟩ := ao h
    refine gE (aN rfl rfl q32.1 q32.2) ?_
    refine gD (bB (R := (ge .i64)) (vss := [[iV ((2 * p12) + 2)]]) (xs := [(2 * p12) + 2]) rfl (fa _) rfl rfl (fun _ _ hr => .cons rfl All2.nil)) ?_
    rintro _ _ ⟨A33, n33, c33, rfl, rfl⟩
    obtain ⟨q34, h⟩ := ao h
    refine gD (bm 6 0 rfl rfl aM rfl rfl Try.underlying31 ui rfl rfl q34) ?_
    rintro _ _ ⟨A35, n35, c35, rfl, rfl⟩
    refine ck ([bN A33 n33 c33 ([(2 * p12) + 2] : List Int), aF A22 n22 c22 y21.Slots, aF A23 n23 c23 y21.More, aq B1 61 [.slice A2 n2 c2, .slice A3 n3 c3, .slice A4 n4 c4, .slice A5 n5 c5, .map (some M6), iV a0.next_], bN A5 n5 c5 a0.met_, bw dT eM M6 a0.seen_, bN A35 n35 c35 (p10 ++ ([(2 * p12) + 2] : List Int)), aR A2 n2 c2 a0.m_.Young, aR A3 n3 c3 a0.m_.Old, ca A4 n4 c4 a0.kept_]) rfl ?_
    refine run ?_
    obtain ⟨q36, h⟩ := ao h
    refine gE (aN rfl rfl q36.1 q36.2) ?_
    refine run ?_
    exact ⟨_, _, ⟨p10 ++ ([(2 * p12) + 2] : List Int), p11, p12 + 1, A35, n35, c35, h, rfl, rfl⟩, sA, ab [6, 4, 7, 8, 9, 5, 3] 10 rfl rfl⟩
   rintro _ _ ⟨p17, p18, p19, A17, n17, c17, h, rfl, rfl⟩
   refine cN ?_
   obtain ⟨q37, h⟩ := ao h
   refine gE (aN rfl rfl q37.1 q37.2) ?_
   refine run ?_
   exact ⟨m9, _, _, Nat.lt_succ_self _, ⟨p17, p18, p19, p13 + 1, A17, n17, c17, h, rfl, rfl⟩, sA, ab [0, 1, 2, 3, 4, 5, 6] 7 rfl rfl⟩
  replace h := ah g15 h
  refine run ?_
  exact ⟨_, _, ⟨p10, A10, n10, c10, h, rfl, rfl⟩, sA, ab [0, 2, 3, 4, 1, 5, 6] 7 rfl rfl⟩
 rintro _ _ ⟨p8, A8, n8, c8, h, rfl, rfl⟩
 refine run ?_
 obtain rfl := ak h
 exact aB rfl rfl (ab [0, 6, 4, 5] 7 rfl rfl) ⟨_, _, _, rfl, rfl⟩
def dz (N : Nat) (a0 : DValue) (a1 : (List Int)) : Option Bool :=
 (cq N a1 a0.N).bind fun y4 => some y4
theorem o5 {N : Nat} {a0 : DValue} {a1 : (List Int)} {r : Bool} (h : dz N a0 a1 = some r) : Okc Try.prog 114 [.agg #[iV a0.Kind, iV a0.N, .string a0.S], pV B1 0] ([bY B1 31 [.slice A2 n2 c2], ca A2 n2 c2 a1]) (fun u post => u = .bool r ∧ post = []) := by
 refine bz Try.func114 rfl rfl ?_
 simp only [aQ]
 refine run ?_
 refine gD (aU rfl rfl) ?_
 rintro _ _ ⟨B3, rfl, rfl⟩
 refine run ?_
 refine gR (bJ 1 rfl rfl iD rfl) ?_
 refine run ?_
 obtain ⟨y4, hy4, h⟩ := aa h
 refine gD (al (ef hy4) tU rfl (mem_cons (am (i := 2) rfl rfl) aj) dB) ?_
 rintro _ _ ⟨_, ⟨rfl, rfl⟩, rfl⟩
 refine run ?_
 obtain rfl := ak h
 exact aB rfl rfl (ab [] 3 rfl rfl) ⟨rfl, rfl⟩
def dj (N : Nat) (a0 : (List DValue)) : Option (List DValue) :=
 bD (cu (([] : List DValue).length + a0.length)) (some (([] : List DValue) ++ a0))
theorem io {N : Nat} {a0 : (List DValue)} {r : (List DValue)} (h : dj N a0 = some r) : Okc Try.prog 118 [.slice A1 n1 c1] ([aF A1 n1 c1 a0]) (fun u post => ∃ A0 n0 c0, u = .slice A0 n0 c0 ∧ post = [bT A0 n0 c0 r]) := by
 refine bz Try.func118 rfl rfl ?_
 simp only [aQ]
 refine run ?_
 refine av ?_
 refine run ?_
 refine gE (uY rfl Try.underlying25) ?_
 refine run ?_
 refine ar rfl (fun g2 => ?_) (fun g2 => ?_)
 ·replace g2 : (A1).isNone = true := by simpa using g2
  refine BD 0 rfl ai g2 (fun hx => ?_)
  subst hx
  replace h : bD (cu (([] : List DValue).length + ([] : List DValue).length)) (some (([] : List DValue) ++ ([] : List DValue))) = some r := h
  replace h : some [] = some r := by simpa [bD] using h
  refine run ?_
  obtain rfl := ak h
  exact aB rfl rfl ((cz bF 38 _).trans (ab [0] 2 rfl rfl)) ⟨_, _, _, rfl, rfl⟩
 refine run ?_
 refine gD (bB (R := bF) (vss := []) (xs := []) rfl (zZ) rfl rfl (fun _ _ hr => All2.nil)) ?_
 rintro _ _ ⟨A4, n4, c4, rfl, rfl⟩
 refine run ?_
 obtain ⟨q5, h⟩ := ao h
 refine gD (bm 0 1 rfl rfl ai rfl rfl Try.underlying25 yx rfl rfl q5) ?_
 rintro _ _ ⟨A6, n6, c6, rfl, rfl⟩
 refine run ?_
 obtain rfl := ak h
 exact aB rfl rfl (ab [0] 2 rfl rfl) ⟨_, _, _, rfl, rfl⟩
theorem ga {r : (List DValue)} : ∀ v post, ((fun (u : Value) (post : List Chunk) => ∃ A0 n0 c0, u = .slice A0 n0 c0 ∧ post = [bT A0 n0 c0 r])) v post → ∀ c ∈ post, bX c := by
 rintro _ _ ⟨_, _, _, rfl, rfl⟩; exact mem_cons bE (aj)
def eZ (N : Nat) (a0 : DCell) : Option DCell :=
 (dj N a0.Slots).bind fun y5 => (dj N a0.More).bind fun y8 => some (⟨a0.Kind, a0.Shape, a0.Flags, a0.Age, y5, y8⟩ : DCell)
theorem oV {N : Nat} {a0 : DCell} {r : DCell} (h : eZ N a0 = some r) : Okc Try.prog 81 [.agg #[iV a0.Kind, iV a0.Shape, iV a0.Flags, iV a0.Age, .slice A1 n1 c1, .slice A2 n2 c2]] ([aF A1 n1 c1 a0.Slots, aF A2 n2 c2 a0.More]) (fun u post => ∃ A0 n0 c0 A1 n1 c1, u = .agg #[iV r.Kind, iV r.Shape, iV r.Flags, iV r.Age, .slice A0 n0 c0, .slice A1 n1 c1] ∧ post = [bT A0 n0 c0 r.Slots, bT A1 n1 c1 r.More]) := by
 refine bz Try.func81 rfl rfl ?_
 simp only [aQ]
 refine run ?_
 refine gD (aU rfl rfl) ?_
 rintro _ _ ⟨B3, rfl, rfl⟩
 refine gD (aS ed rfl) ?_
 rintro _ _ ⟨B4, rfl, rfl⟩
 refine run ?_
 refine av ?_
 obtain ⟨y5, hy5, h⟩ := aa h
 obtain ⟨y8, hy8, h⟩ := aa h
 refine fb (t := [(1, pV B3 0), (2, pV B4 0)]) ?_ gX (ac _)
 refine fo (by kernel_rfl) 7 [] [2, 5, 6] [3, 4, 5, 6, 7, 8, 9] [[], [0], [1], [], [3], [4], []] [aV (pV B3 4),
 aV (.slice A1 n1 c1),
 aX3 (fun (A7 : Option Addr) (n7 c7 : Nat) => .slice A7 n7 c7) (fun A7 n7 c7 => [bT A7 n7 c7 y5]),
 aV (pV B3 5),
 aV (.slice A2 n2 c2),
 aX3 (fun (A10 : Option Addr) (n10 c10 : Nat) => .slice A10 n10 c10) (fun A10 n10 c10 => [bT A10 n10 c10 y8]),
 aV (pV B3 4)] [] (ac _) (gH) (by kernel_rfl) rfl rfl ?_ ?_ ?_
 ·exact gG
 ·refine ae rfl ?_ ?_
  ·exact bj (cK rfl kV) rfl (aD rfl (ac _))
  refine ae rfl ?_ ?_
  ·refine jy (al (io hy8) tW rfl (mem_cons (am (i := 3) rfl rfl) aj) ga) rfl ?_
   rintro _ _ ⟨_, ⟨A9, n9, c9, rfl, rfl⟩, rfl⟩
   exact ig A9 n9 c9 (ac _)
  refine ae rfl ?_ ?_
  ·exact bW (bd 1 rfl rfl ft rfl) rfl (aD rfl (ac _))
  refine ae rfl ?_ ?_
  ·exact bj (cK rfl gt) rfl (aD rfl (ac _))
  refine ae rfl ?_ ?_
  ·refine jy (al (io hy5) tW rfl (mem_cons (am (i := 2) rfl rfl) aj) ga) rfl ?_
   rintro _ _ ⟨_, ⟨A6, n6, c6, rfl, rfl⟩, rfl⟩
   exact ig A6 n6 c6 (ac _)
  refine ae rfl ?_ ?_
  ·exact bW (bd 1 rfl rfl ft rfl) rfl (aD rfl (ac _))
  refine ae rfl ?_ ?_
  ·exact bj (cK rfl kV) rfl (aD rfl (ac _))
  exact db
 intro A7 n7 c7 A10 n10 c10
 refine jN (t := [(5, .slice A7 n7 c7), (8, .slice A10 n10 c10), (9, pV B3 4), (1, pV B3 0), (2, pV B4 0)]) (L' := [bT A7 n7 c7 y5, bT A10 n10 c10 y8, aq B4 42 [iV 0, iV 0, iV 0, iV 0, .slice none 0 0, .slice none 0 0], aq B3 42 [iV a0.Kind, iV a0.Shape, iV a0.Flags, iV a0.Age, .slice A1 n1 c1, .slice A2 n2 c2], aF A1 n1 c1 a0.Slots, aF A2 n2 c2 a0.More]) ?_ gX (ac _)
 refine mq 7 rfl (by kernel_rfl) (ay (us := [.slice A7 n7 c7]) (cs' := [iV a0.Kind, iV a0.Shape, iV a0.Flags, iV a0.Age, .slice A7 n7 c7, .slice A2 n2 c2]) 3 rfl rfl rfl rfl ip rfl rfl rfl) rfl rfl ?_
 rintro _ _ rfl
 refine oZ 8 rfl (by kernel_rfl) (cK rfl gt) rfl rfl rfl ?_
 refine mq 9 rfl (by kernel_rfl) (ay (us := [.slice A10 n10 c10]) (cs' := [iV a0.Kind, iV a0.Shape, iV a0.Flags, iV a0.Age, .slice A7 n7 c7, .slice A10 n10 c10]) 3 rfl rfl rfl rfl ip rfl rfl rfl) rfl rfl ?_
 rintro _ _ rfl
 refine gM (by kernel_rfl) ?_
 refine run ?_
 refine gR (aE (us := [iV a0.Kind, iV a0.Shape, iV a0.Flags, iV a0.Age, .slice A7 n7 c7, .slice A10 n10 c10]) 3 rfl rfl ba rfl) ?_
 refine gO (ay (us := [iV a0.Kind, iV a0.Shape, iV a0.Flags, iV a0.Age, .slice A7 n7 c7, .slice A10 n10 c10]) (cs' := [iV a0.Kind, iV a0.Shape, iV a0.Flags, iV a0.Age, .slice A7 n7 c7, .slice A10 n10 c10]) 2 rfl rfl rfl rfl bq rfl rfl rfl) ?_
 rintro _ _ rfl
 refine ck ([bT A7 n7 c7 y5, bT A10 n10 c10 y8, aq B4 42 [iV a0.Kind, iV a0.Shape, iV a0.Flags, iV a0.Age, .slice A7 n7 c7, .slice A10 n10 c10], aq B3 42 [iV a0.Kind, iV a0.Shape, iV a0.Flags, iV a0.Age, .slice A7 n7 c7, .slice A10 n10 c10], aF A1 n1 c1 a0.Slots, aF A2 n2 c2 a0.More]) rfl ?_
 refine run ?_
 obtain rfl := ak h
 exact eX (rs := [.cell 2 42]) (vs := [.agg #[iV a0.Kind, iV a0.Shape, iV a0.Flags, iV a0.Age, .slice A7 n7 c7, .slice A10 n10 c10]]) rfl (.cons (dD 2 rfl rfl ba) .nil) rfl (ab [0, 1] 6 rfl rfl) ⟨_, _, _, _, _, _, rfl, rfl⟩
theorem mn {r : DCell} : ∀ v post, ((fun (u : Value) (post : List Chunk) => ∃ A0 n0 c0 A1 n1 c1, u = .agg #[iV r.Kind, iV r.Shape, iV r.Flags, iV r.Age, .slice A0 n0 c0, .slice A1 n1 c1] ∧ post = [bT A0 n0 c0 r.Slots, bT A1 n1 c1 r.More])) v post → ∀ c ∈ post, bX c := by
 rintro _ _ ⟨_, _, _, _, _, _, rfl, rfl⟩; exact mem_cons bE (mem_cons bE (aj))
def dP (N : Nat) (ff : DValue → Option Bool) (y6 : (DCell)) (x12 : DValue × DValue) : ((List DValue)) → Option (Option Exit × (List DValue))
 | p13 => (ff x12.1).bind fun y18 => bif y18 then (bD (cu (p13.length + ([x12.1, x12.2] : List DValue).length)) (some (none, p13 ++ ([x12.1, x12.2] : List DValue)))) else (some (none, p13))
def lA (N : Nat) (a0 : DCell) (ff : DValue → Option Bool) : Option DCell :=
 (eZ N a0).bind fun y6 => (eN N a0).bind fun y10 => (dA N a0 (cm (fun x st => dP N ff y6 x st)) (none, [])).bind fun y14 => oW y14.1 (some (⟨y6.Kind, y6.Shape, y6.Flags, y6.Age, y6.Slots, y14.2⟩ : DCell)) none (fun _ => none)
theorem ta {N : Nat} {a0 : DCell} {ff : DValue → Option Bool} {r : DCell} (h : lA N a0 ff = some r) {vf : Value} {G : List Chunk} (hf : wH Try.prog vf G (fun x => [.agg #[iV x.Kind, iV x.N, .string x.S]]) (fun r => .bool r) ff) : Okc Try.prog 113 [.agg #[iV a0.Kind, iV a0.Shape, iV a0.Flags, iV a0.Age, .slice A1 n1 c1, .slice A2 n2 c2], vf] (aF A1 n1 c1 a0.Slots :: aF A2 n2 c2 a0.More :: G) (fun u post => ∃ A0 n0 c0 A1 n1 c1, u = .agg #[iV r.Kind, iV r.Shape, iV r.Flags, iV r.Age, .slice A0 n0 c0, .slice A1 n1 c1] ∧ post = [bT A0 n0 c0 r.Slots, bT A1 n1 c1 r.More]) := by
 refine bz Try.func113 rfl rfl ?_
 simp only [aQ]
 refine run ?_
 refine gD (aU rfl rfl) ?_
 rintro _ _ ⟨B3, rfl, rfl⟩
 refine gD (aU rfl (zt hf)) ?_
 rintro _ _ ⟨B4, rfl, rfl⟩
 refine gD (aS ed rfl) ?_
 rintro _ _ ⟨B5, rfl, rfl⟩
 refine run ?_
 refine gR (aE (us := [iV a0.Kind, iV a0.Shape, iV a0.Flags, iV a0.Age, .slice A1 n1 c1, .slice A2 n2 c2]) 2 rfl rfl ba rfl) ?_
 obtain ⟨y6, hy6, h⟩ := aa h
 refine gD (al (oV hy6) zH rfl (mem_cons (am (i := 3) rfl rfl) (mem_cons (am (i := 4) rfl rfl) aj)) mn) ?_
 rintro _ _ ⟨_, ⟨A7, n7, c7, A8, n8, c8, rfl, rfl⟩, rfl⟩
 refine gD (aS ed rfl) ?_
 rintro _ _ ⟨B9, rfl, rfl⟩
 refine gO (ay (us := [iV y6.Kind, iV y6.Shape, iV y6.Flags, iV y6.Age, .slice A7 n7 c7, .slice A8 n8 c8]) (cs' := [iV y6.Kind, iV y6.Shape, iV y6.Flags, iV y6.Age, .slice A7 n7 c7, .slice A8 n8 c8]) 0 rfl rfl rfl rfl bq rfl rfl rfl) ?_
 rintro _ _ rfl
 refine run ?_
 refine gO (ay (us := [.slice none 0 0]) (cs' := [iV y6.Kind, iV y6.Shape, iV y6.Flags, iV y6.Age, .slice A7 n7 c7, .slice none 0 0]) 0 rfl rfl rfl rfl ip rfl rfl rfl) ?_
 rintro _ _ rfl
 refine run ?_
 refine av ?_
 refine run ?_
 refine gR (aE (us := [iV a0.Kind, iV a0.Shape, iV a0.Flags, iV a0.Age, .slice A1 n1 c1, .slice A2 n2 c2]) 5 rfl rfl ba rfl) ?_
 obtain ⟨y10, hy10, h⟩ := aa h
 refine gD (al (lh hy10) xt rfl (mem_cons (am (i := 6) rfl rfl) (mem_cons (am (i := 7) rfl rfl) aj)) jB) ?_
 rintro _ _ ⟨_, ⟨B11, rfl, rfl⟩, rfl⟩
 refine o3 ?_
 refine kO ?_
 refine fb ?_ cI (fZ 0 rfl)
 refine qv (bY B11 42 [iV a0.Kind, iV a0.Shape, iV a0.Flags, iV a0.Age, .slice A1 n1 c1, .slice A2 n2 c2] :: aq B9 42 [iV y6.Kind, iV y6.Shape, iV y6.Flags, iV y6.Age, .slice A7 n7 c7, .slice none 0 0] :: bT A7 n7 c7 y6.Slots :: bT A8 n8 c8 y6.More :: aq B5 42 [iV 0, iV 0, iV 0, iV 0, .slice none 0 0, .slice none 0 0] :: aq B4 70 [vf] :: aq B3 42 [iV a0.Kind, iV a0.Shape, iV a0.Flags, iV a0.Age, .slice A1 n1 c1, .slice A2 n2 c2] :: aF A1 n1 c1 a0.Slots :: aF A2 n2 c2 a0.More :: G) rfl ?_
 obtain ⟨y14, hy14, h⟩ := aa h
 refine o0 (en := (fun x => [.agg #[iV x.1.Kind, iV x.1.N, .string x.1.S], .agg #[iV x.2.Kind, iV x.2.N, .string x.2.S]])) (fun x st => dP N ff y6 x st) (fun (st : (List DValue)) (mz : ((Option Addr × Nat × Nat))) => [aq B4 70 [vf], aq B5 42 [iV 0, iV 0, iV 0, iV 0, .slice none 0 0, .slice none 0 0], bT A7 n7 c7 y6.Slots, gj bF 38 (.slice mz.1 mz.2.1 mz.2.2) st, aq B9 42 [iV y6.Kind, iV y6.Shape, iV y6.Flags, iV y6.Age, .slice A7 n7 c7, .slice mz.1 mz.2.1 mz.2.2]] ++ G) [bY B11 42 [iV a0.Kind, iV a0.Shape, iV a0.Flags, iV a0.Age, .slice A1 n1 c1, .slice A2 n2 c2], aF A1 n1 c1 a0.Slots, aF A2 n2 c2 a0.More] ([]) ((none, 0, 0)) rfl rfl xq rfl (fun _ => rfl) (fun l G hY => (iX hy14 hY).mono fun _ _ hh => hh.2) ((cz bF 38 _).trans (bO [1, 8, 9] [] [6, 5, 3, 0, 2] 10 rfl)) h ?_ ?_ ?_ ?_
 ·rintro l x12 p13 je sr12 ⟨A13, n13, c13⟩ h
  replace h : dP N ff y6 x12 p13 = some (je, sr12) := h
  simp only [qn, List.zip_cons_cons, List.zip_nil_left, List.zip_nil_right, List.reverse_cons, List.reverse_nil, List.nil_append, List.cons_append]
  refine run ?_
  refine gD (aS gz rfl) ?_
  rintro _ _ ⟨B16, rfl, rfl⟩
  refine gO (ay (us := [iV x12.1.Kind, iV x12.1.N, .string x12.1.S]) (cs' := [iV x12.1.Kind, iV x12.1.N, .string x12.1.S]) 0 rfl rfl rfl rfl aG rfl rfl rfl) ?_
  rintro _ _ rfl
  refine run ?_
  refine gD (aS gz rfl) ?_
  rintro _ _ ⟨B17, rfl, rfl⟩
  refine gO (ay (us := [iV x12.2.Kind, iV x12.2.N, .string x12.2.S]) (cs' := [iV x12.2.Kind, iV x12.2.N, .string x12.2.S]) 0 rfl rfl rfl rfl aG rfl rfl rfl) ?_
  rintro _ _ rfl
  refine run ?_
  refine gR (aE (us := [iV x12.1.Kind, iV x12.1.N, .string x12.1.S]) 1 rfl rfl bp rfl) ?_
  obtain ⟨y18, hy18, h⟩ := aa h
  refine gD (rd (a := x12.1) [aq B17 38 [iV x12.2.Kind, iV x12.2.N, .string x12.2.S], aq B16 38 [iV x12.1.Kind, iV x12.1.N, .string x12.1.S], aq B4 70 [vf], aq B5 42 [iV 0, iV 0, iV 0, iV 0, .slice none 0 0, .slice none 0 0], bT A7 n7 c7 y6.Slots, bT A13 n13 c13 p13, aq B9 42 [iV y6.Kind, iV y6.Shape, iV y6.Flags, iV y6.Age, .slice A7 n7 c7, .slice A13 n13 c13]] hf hy18 rfl rfl) ?_
  rintro _ _ ⟨rfl, rfl⟩
  refine ck (aq B17 38 [iV x12.2.Kind, iV x12.2.N, .string x12.2.S] :: aq B16 38 [iV x12.1.Kind, iV x12.1.N, .string x12.1.S] :: aq B4 70 [vf] :: aq B5 42 [iV 0, iV 0, iV 0, iV 0, .slice none 0 0, .slice none 0 0] :: bT A7 n7 c7 y6.Slots :: bT A13 n13 c13 p13 :: aq B9 42 [iV y6.Kind, iV y6.Shape, iV y6.Flags, iV y6.Age, .slice A7 n7 c7, .slice A13 n13 c13] :: G) rfl ?_
  refine run ?_
  refine ar rfl (fun g19 => ?_) (fun g19 => ?_)
  ·replace h := ag g19 h
   refine run ?_
   refine gR (aE (us := [iV x12.1.Kind, iV x12.1.N, .string x12.1.S]) 1 rfl rfl bp rfl) ?_
   refine gR (aE (us := [iV x12.2.Kind, iV x12.2.N, .string x12.2.S]) 0 rfl rfl bp rfl) ?_
   refine gD (bB (R := bF) (vss := [[iV x12.1.Kind, iV x12.1.N, .string x12.1.S], [iV x12.2.Kind, iV x12.2.N, .string x12.2.S]]) (xs := [x12.1, x12.2]) rfl (vq _ _ _ _ _ _) rfl rfl (fun _ _ hr => .cons rfl (.cons rfl All2.nil))) ?_
   rintro _ _ ⟨A20, n20, c20, rfl, rfl⟩
   obtain ⟨q21, h⟩ := ao h
   refine gD (bm 6 0 rfl rfl aM rfl rfl Try.underlying25 yx rfl rfl q21) ?_
   rintro _ _ ⟨A22, n22, c22, rfl, rfl⟩
   refine run ?_
   refine gO (ay (us := [.slice A22 n22 c22]) (cs' := [iV y6.Kind, iV y6.Shape, iV y6.Flags, iV y6.Age, .slice A7 n7 c7, .slice A22 n22 c22]) 7 rfl rfl rfl rfl ip rfl rfl rfl) ?_
   rintro _ _ rfl
   refine run ?_
   obtain ⟨rfl, rfl⟩ := Prod.mk.inj (Option.some.inj h)
   exact sb ((ab [3, 4, 5, 6, 7] 8 rfl rfl).trans (dq (A22, n22, c22) rfl))
  replace h := ah g19 h
  refine run ?_
  obtain ⟨rfl, rfl⟩ := Prod.mk.inj (Option.some.inj h)
  exact sb ((ab [2, 3, 4, 5, 6] 7 rfl rfl).trans (dq (A13, n13, c13) rfl))
 ·rintro ⟨A13, n13, c13⟩ h
  refine jO (aq B4 70 [vf] :: aq B5 42 [iV 0, iV 0, iV 0, iV 0, .slice none 0 0, .slice none 0 0] :: bT A7 n7 c7 y6.Slots :: bT A13 n13 c13 y14.2 :: aq B9 42 [iV y6.Kind, iV y6.Shape, iV y6.Flags, iV y6.Age, .slice A7 n7 c7, .slice A13 n13 c13] :: G) rfl ?_
  refine run ?_
  refine gR (aE (us := [iV y6.Kind, iV y6.Shape, iV y6.Flags, iV y6.Age, .slice A7 n7 c7, .slice A13 n13 c13]) 4 rfl rfl ba rfl) ?_
  refine gO (ay (us := [iV y6.Kind, iV y6.Shape, iV y6.Flags, iV y6.Age, .slice A7 n7 c7, .slice A13 n13 c13]) (cs' := [iV y6.Kind, iV y6.Shape, iV y6.Flags, iV y6.Age, .slice A7 n7 c7, .slice A13 n13 c13]) 1 rfl rfl rfl rfl bq rfl rfl rfl) ?_
  rintro _ _ rfl
  refine ck (aq B4 70 [vf] :: aq B5 42 [iV y6.Kind, iV y6.Shape, iV y6.Flags, iV y6.Age, .slice A7 n7 c7, .slice A13 n13 c13] :: bT A7 n7 c7 y6.Slots :: bT A13 n13 c13 y14.2 :: aq B9 42 [iV y6.Kind, iV y6.Shape, iV y6.Flags, iV y6.Age, .slice A7 n7 c7, .slice A13 n13 c13] :: G) rfl ?_
  refine run ?_
  obtain rfl := ak h
  exact eX (rs := [.cell 4 42]) (vs := [.agg #[iV y6.Kind, iV y6.Shape, iV y6.Flags, iV y6.Age, .slice A7 n7 c7, .slice A13 n13 c13]]) rfl (.cons (dD 1 rfl rfl ba) .nil) rfl (kZ [2, 3] 5 rfl rfl) ⟨_, _, _, _, _, _, rfl, rfl⟩
 ·rintro ⟨A13, n13, c13⟩ h
  exact aA h
 rintro i ⟨A13, n13, c13⟩ h
 exact aA h
theorem qC {r : DCell} : ∀ v post, ((fun (u : Value) (post : List Chunk) => ∃ A0 n0 c0 A1 n1 c1, u = .agg #[iV r.Kind, iV r.Shape, iV r.Flags, iV r.Age, .slice A0 n0 c0, .slice A1 n1 c1] ∧ post = [bT A0 n0 c0 r.Slots, bT A1 n1 c1 r.More])) v post → ∀ c ∈ post, bX c := by
 rintro _ _ ⟨_, _, _, _, _, _, rfl, rfl⟩; exact mem_cons bE (mem_cons bE (aj))
def iI (N : Nat) (a0 : DCell) (a1 : (List Int)) : Option DCell :=
 (kf N a0).bind fun y7 => bif !y7 then (some (⟨0, 0, 0, 0, [], []⟩ : DCell)) else ((lA N a0 (fun x => dz N x a1)).bind fun y11 => some y11)
theorem rQ {N : Nat} {a0 : DCell} {a1 : (List Int)} {r : DCell} (h : iI N a0 a1 = some r) : Okc Try.prog 79 [.agg #[iV a0.Kind, iV a0.Shape, iV a0.Flags, iV a0.Age, .slice A1 n1 c1, .slice A2 n2 c2], .slice A3 n3 c3] ([aF A1 n1 c1 a0.Slots, aF A2 n2 c2 a0.More, ca A3 n3 c3 a1]) (fun u post => ∃ A0 n0 c0 A1 n1 c1, u = .agg #[iV r.Kind, iV r.Shape, iV r.Flags, iV r.Age, .slice A0 n0 c0, .slice A1 n1 c1] ∧ post = [bT A0 n0 c0 r.Slots, bT A1 n1 c1 r.More]) := by
 refine bz Try.func79 rfl rfl ?_
 simp only [aQ]
 refine run ?_
 refine gD (aU rfl rfl) ?_
 rintro _ _ ⟨B4, rfl, rfl⟩
 refine gD (aU rfl rfl) ?_
 rintro _ _ ⟨B5, rfl, rfl⟩
 refine gD (aS ed rfl) ?_
 rintro _ _ ⟨B6, rfl, rfl⟩
 refine run ?_
 refine av ?_
 refine run ?_
 refine gR (aE (us := [iV a0.Kind, iV a0.Shape, iV a0.Flags, iV a0.Age, .slice A1 n1 c1, .slice A2 n2 c2]) 2 rfl rfl ba rfl) ?_
 obtain ⟨y7, hy7, h⟩ := aa h
 refine gD (al (qD hy7) xv rfl (mem_cons (am (i := 3) rfl rfl) (mem_cons (am (i := 4) rfl rfl) aj)) nS) ?_
 rintro _ _ ⟨_, ⟨rfl, rfl⟩, rfl⟩
 refine run ?_
 refine ar rfl (fun g8 => ?_) (fun g8 => ?_)
 ·replace h := ag g8 h
  refine run ?_
  refine gE (dJ rfl (tZ)) ?_
  refine gO (ay (us := [iV 0, iV 0, iV 0, iV 0, .slice none 0 0, .slice none 0 0]) (cs' := [iV 0, iV 0, iV 0, iV 0, .slice none 0 0, .slice none 0 0]) 0 rfl rfl rfl rfl bq rfl rfl rfl) ?_
  rintro _ _ rfl
  refine run ?_
  obtain rfl := ak h
  exact eX (rs := [.cell 4 42]) (vs := [.agg #[iV 0, iV 0, iV 0, iV 0, .slice none 0 0, .slice none 0 0]]) rfl (.cons (dD 0 rfl rfl ba) .nil) rfl ((cz bF 38 _).trans ((cz bF 38 _).trans (ab [1, 0] 8 rfl rfl))) ⟨_, _, _, _, _, _, rfl, rfl⟩
 replace h := ah g8 h
 refine run ?_
 refine gR (aE (us := [iV a0.Kind, iV a0.Shape, iV a0.Flags, iV a0.Age, .slice A1 n1 c1, .slice A2 n2 c2]) 2 rfl rfl ba rfl) ?_
 refine gE (eW rfl) ?_
 obtain ⟨y11, hy11, h⟩ := aa h
 refine gD (al (ta hy11 ⟨mem_cons rfl (mem_cons rfl aj), 114, #[], #[pV B5 0], rfl, Bm, fun _ _ hh => o5 hh⟩) Bn rfl (mem_cons (am (i := 3) rfl rfl) (mem_cons (am (i := 4) rfl rfl) (mem_cons (kw (i := 1) rfl) (mem_cons (am (i := 5) rfl rfl) aj)))) qC) ?_
 rintro _ _ ⟨_, ⟨A12, n12, c12, A13, n13, c13, rfl, rfl⟩, rfl⟩
 refine gO (ay (us := [iV y11.Kind, iV y11.Shape, iV y11.Flags, iV y11.Age, .slice A12 n12 c12, .slice A13 n13 c13]) (cs' := [iV y11.Kind, iV y11.Shape, iV y11.Flags, iV y11.Age, .slice A12 n12 c12, .slice A13 n13 c13]) 2 rfl rfl rfl rfl bq rfl rfl rfl) ?_
 rintro _ _ rfl
 refine run ?_
 obtain rfl := ak h
 exact eX (rs := [.cell 4 42]) (vs := [.agg #[iV y11.Kind, iV y11.Shape, iV y11.Flags, iV y11.Age, .slice A12 n12 c12, .slice A13 n13 c13]]) rfl (.cons (dD 2 rfl rfl ba) .nil) rfl (ab [0, 1] 8 rfl rfl) ⟨_, _, _, _, _, _, rfl, rfl⟩
theorem qc {r : DCell} : ∀ v post, ((fun (u : Value) (post : List Chunk) => ∃ A0 n0 c0 A1 n1 c1, u = .agg #[iV r.Kind, iV r.Shape, iV r.Flags, iV r.Age, .slice A0 n0 c0, .slice A1 n1 c1] ∧ post = [bT A0 n0 c0 r.Slots, bT A1 n1 c1 r.More])) v post → ∀ c ∈ post, bX c := by
 rintro _ _ ⟨_, _, _, _, _, _, rfl, rfl⟩; exact mem_cons bE (mem_cons bE (aj))
def jI (N : Nat) (a0 : DCell) : Option Bool :=
 (bif decide (a0.Kind = 10) then ((el N a0).bind fun y5 => some y5) else (some false)).bind fun b4 => some b4
theorem tL {N : Nat} {a0 : DCell} {r : Bool} (h : jI N a0 = some r) : Okc Try.prog 115 [.agg #[iV a0.Kind, iV a0.Shape, iV a0.Flags, iV a0.Age, .slice A1 n1 c1, .slice A2 n2 c2]] ([aF A1 n1 c1 a0.Slots, aF A2 n2 c2 a0.More]) (fun u post => u = .bool r ∧ post = []) := by
 refine bz Try.func115 rfl rfl ?_
 simp only [aQ]
 refine run ?_
 refine gD (aU rfl rfl) ?_
 rintro _ _ ⟨B3, rfl, rfl⟩
 refine run ?_
 obtain ⟨b4, hb4, h⟩ := aa h
 refine aw 3 9 b4 ?_ ?_
 ·clear h
  refine ax 6 rfl (fun g4 => ?_) (fun g4 => ?_)
  ·have h := ag g4 hb4
   refine aZ (aE (us := [iV a0.Kind, iV a0.Shape, iV a0.Flags, iV a0.Age, .slice A1 n1 c1, .slice A2 n2 c2]) 0 rfl rfl ba rfl) rfl (aJ g4 rfl) rfl ?_
   obtain ⟨y5, hy5, h⟩ := aa h
   refine bM (al (jY hy5) wr rfl (mem_cons (am (i := 1) rfl rfl) (mem_cons (am (i := 2) rfl rfl) aj)) iw) rfl (aJ g4 rfl) rfl ?_
   rintro _ _ ⟨_, ⟨rfl, rfl⟩, rfl⟩
   refine run ?_
   obtain rfl := ak h
   exact ad sA (ab [0, 1, 2] 3 rfl rfl)
  have h := ah g4 hb4
  refine run ?_
  obtain rfl := ak h
  exact ad sA (ab [0, 1, 2] 3 rfl rfl)
 refine run ?_
 obtain rfl := ak h
 exact aB rfl rfl (ab [] 3 rfl rfl) ⟨rfl, rfl⟩
theorem rA {r : Bool} : ∀ v post, ((fun (u : Value) (post : List Chunk) => u = .bool r ∧ post = [])) v post → ∀ c ∈ post, bX c := by
 rintro _ _ ⟨rfl, rfl⟩; exact aj
def jU (N : Nat) (a0 : DCell) : Option DCell :=
 (dj N a0.Slots).bind fun y5 => (aH a0.More 0).bind fun x7 => some (⟨a0.Kind, a0.Shape, a0.Flags, a0.Age, y5, ([x7] : List DValue)⟩ : DCell)
theorem rB {N : Nat} {a0 : DCell} {r : DCell} (h : jU N a0 = some r) : Okc Try.prog 116 [.agg #[iV a0.Kind, iV a0.Shape, iV a0.Flags, iV a0.Age, .slice A1 n1 c1, .slice A2 n2 c2]] ([aF A1 n1 c1 a0.Slots, aF A2 n2 c2 a0.More]) (fun u post => ∃ A0 n0 c0 A1 n1 c1, u = .agg #[iV r.Kind, iV r.Shape, iV r.Flags, iV r.Age, .slice A0 n0 c0, .slice A1 n1 c1] ∧ post = [bT A0 n0 c0 r.Slots, bT A1 n1 c1 r.More]) := by
 refine bz Try.func116 rfl rfl ?_
 simp only [aQ]
 refine run ?_
 refine gD (aU rfl rfl) ?_
 rintro _ _ ⟨B3, rfl, rfl⟩
 refine gD (aS ed rfl) ?_
 rintro _ _ ⟨B4, rfl, rfl⟩
 refine run ?_
 obtain ⟨y5, hy5, h⟩ := aa h
 refine gD (al (io hy5) tW rfl (mem_cons (am (i := 2) rfl rfl) aj) ga) ?_
 rintro _ _ ⟨_, ⟨A6, n6, c6, rfl, rfl⟩, rfl⟩
 refine run ?_
 refine gO (ay (us := [.slice A6 n6 c6]) (cs' := [iV a0.Kind, iV a0.Shape, iV a0.Flags, iV a0.Age, .slice A6 n6 c6, .slice A2 n2 c2]) 2 rfl rfl rfl rfl ip rfl rfl rfl) ?_
 rintro _ _ rfl
 refine run ?_
 obtain ⟨x7, hx7, h⟩ := aa h
 obtain ⟨lx7, ux7, hx7⟩ := ap hx7
 refine gR (aC 4 rfl ai rfl rfl Try.underlying25 aG lx7 ux7) ?_
 refine gR (aO (us := [iV x7.Kind, iV x7.N, .string x7.S]) 4 rfl ai rfl hx7 bp (fun _ _ _ h => by rw [show _ = _ from h]; rfl)) ?_
 refine gD (bB (R := bF) (vss := [[iV x7.Kind, iV x7.N, .string x7.S]]) (xs := [x7]) rfl (rJ _ _ _) rfl rfl (fun _ _ hr => .cons rfl All2.nil)) ?_
 rintro _ _ ⟨A8, n8, c8, rfl, rfl⟩
 refine run ?_
 refine gO (ay (us := [.slice A8 n8 c8]) (cs' := [iV a0.Kind, iV a0.Shape, iV a0.Flags, iV a0.Age, .slice A6 n6 c6, .slice A8 n8 c8]) 3 rfl rfl rfl rfl ip rfl rfl rfl) ?_
 rintro _ _ rfl
 refine run ?_
 refine gR (aE (us := [iV a0.Kind, iV a0.Shape, iV a0.Flags, iV a0.Age, .slice A6 n6 c6, .slice A8 n8 c8]) 3 rfl rfl ba rfl) ?_
 refine gO (ay (us := [iV a0.Kind, iV a0.Shape, iV a0.Flags, iV a0.Age, .slice A6 n6 c6, .slice A8 n8 c8]) (cs' := [iV a0.Kind, iV a0.Shape, iV a0.Flags, iV a0.Age, .slice A6 n6 c6, .slice A8 n8 c8]) 2 rfl rfl rfl rfl bq rfl rfl rfl) ?_
 rintro _ _ rfl
 refine ck ([bT A8 n8 c8 ([x7] : List DValue), bT A6 n6 c6 y5, aq B4 42 [iV a0.Kind, iV a0.Shape, iV a0.Flags, iV a0.Age, .slice A6 n6 c6, .slice A8 n8 c8], aq B3 42 [iV a0.Kind, iV a0.Shape, iV a0.Flags, iV a0.Age, .slice A6 n6 c6, .slice A8 n8 c8], aF A1 n1 c1 a0.Slots, aF A2 n2 c2 a0.More]) rfl ?_
 refine run ?_
 obtain rfl := ak h
 exact eX (rs := [.cell 2 42]) (vs := [.agg #[iV a0.Kind, iV a0.Shape, iV a0.Flags, iV a0.Age, .slice A6 n6 c6, .slice A8 n8 c8]]) rfl (.cons (dD 2 rfl rfl ba) .nil) rfl (ab [1, 0] 6 rfl rfl) ⟨_, _, _, _, _, _, rfl, rfl⟩
theorem pw {r : DCell} : ∀ v post, ((fun (u : Value) (post : List Chunk) => ∃ A0 n0 c0 A1 n1 c1, u = .agg #[iV r.Kind, iV r.Shape, iV r.Flags, iV r.Age, .slice A0 n0 c0, .slice A1 n1 c1] ∧ post = [bT A0 n0 c0 r.Slots, bT A1 n1 c1 r.More])) v post → ∀ c ∈ post, bX c := by
 rintro _ _ ⟨_, _, _, _, _, _, rfl, rfl⟩; exact mem_cons bE (mem_cons bE (aj))
def finreg_entries_c1_l4 (N : Nat) {σ : Type} (fy : (Int × (List DValue)) → σ → Option (Bool × σ)) (a1 : DCell) : Nat → Int → σ → Option σ
 | 0, _, _ => none
 | m4 + 1, p5, p6 => bD (aK (p5 + 4)) (bif decide (p5 + 4 ≤ (a1.More.length : Int)) then (bD (aK (p5 + 4)) (bD (aK (p5 + 4)) (bD ((0 : Int) ≤ p5 ∧ (0 : Int) ≤ p5 + 4 ∧ p5.toNat ≤ (p5 + 4).toNat ∧ (p5 + 4).toNat ≤ a1.More.length) ((fy (p5, (a1.More.drop p5.toNat).take ((p5 + 4).toNat - p5.toNat)) p6).bind fun y13 => bif !y13.1 then (some y13.2) else (bD (aK (p5 + 4)) ((finreg_entries_c1_l4 N fy a1 m4) (p5 + 4) y13.2)))))) else (some p6))
def fx (N : Nat) {σ : Type} (a1 : DCell) (fy : (Int × (List DValue)) → σ → Option (Bool × σ)) (s0 : σ) : Option σ :=
 finreg_entries_c1_l4 N fy a1 N 1 s0
theorem md {N : Nat} {σ : Type} {a1 : DCell} {fy : (Int × (List DValue)) → σ → Option (Bool × σ)} {s0 : σ} {r : σ} (h : fx N a1 fy s0 = some r) {l : Nat} {G : σ → List Chunk} (hY : ky Try.prog l G (fun (x : Int × (List DValue)) vs cs => ∃ A1 n1 c1, vs = [iV x.1, .slice A1 n1 c1] ∧ cs = [aF A1 n1 c1 x.2]) fy) : Okc Try.prog 143 [.func (.yield l) #[] #[], pV B1 0] (bY B1 42 [iV a1.Kind, iV a1.Shape, iV a1.Flags, iV a1.Age, .slice A2 n2 c2, .slice A3 n3 c3] :: aF A2 n2 c2 a1.Slots :: aF A3 n3 c3 a1.More :: (G s0)) (fun u post => u = .tuple #[] ∧ post = G r) := by
 refine bz Try.func143 rfl rfl ?_
 simp only [aQ]
 refine run ?_
 refine bc (fun m s L => ∃ p5 p6, finreg_entries_c1_l4 N fy a1 m p5 p6 = some r ∧ s = [(0, .func (.yield l) #[] #[]), (1, pV B1 0), (3, iV p5)] ∧ L = aF A2 n2 c2 a1.Slots :: aF A3 n3 c3 a1.More :: bY B1 42 [iV a1.Kind, iV a1.Shape, iV a1.Flags, iV a1.Age, .slice A2 n2 c2, .slice A3 n3 c3] :: (G p6)) N _ _ ⟨1, s0, h, rfl, rfl⟩ sA (ab [1, 2, 0] 3 rfl rfl) ?_
 rintro (_ | m4) _ _ ⟨p5, p6, h, rfl, rfl⟩
 ·exact aA h
 rw [finreg_entries_c1_l4.eq_2] at h
 refine av ?_
 refine run ?_
 obtain ⟨q7, h⟩ := ao h
 refine gE (aN rfl rfl q7.1 q7.2) ?_
 refine run ?_
 refine gR (bJ 2 rfl rfl ft rfl) ?_
 refine gR (az 1 rfl ai rfl Try.underlying25) ?_
 refine run ?_
 refine ar rfl (fun g8 => ?_) (fun g8 => ?_)
 ·replace h := ag g8 h
  refine run ?_
  refine av ?_
  refine run ?_
  refine gR (bJ 2 rfl rfl ft rfl) ?_
  refine run ?_
  obtain ⟨q9, h⟩ := ao h
  refine gE (aN rfl rfl q9.1 q9.2) ?_
  refine run ?_
  obtain ⟨q10, h⟩ := ao h
  refine gE (aN rfl rfl q10.1 q10.2) ?_
  obtain ⟨q11, h⟩ := ao h
  refine Al 1 rfl (l := p5.toNat) (h := (p5 + 4).toNat) q11.2.2.1 q11.2.2.2 ?_
  rintro A12 n12 c12 e12
  refine gR (wP 2 rfl e12 rfl Try.underlying25 aG rfl (by rw [Int.toNat_of_nonneg q11.1]; rfl) (by rw [Int.toNat_of_nonneg q11.2.1]; rfl) (by rw [Int.toNat_of_nonneg q11.2.1]; rfl) q11.2.2.1 q11.2.2.2) ?_
  obtain ⟨y13, hy13, h⟩ := aa h
  refine gD (ss (a := (p5, (a1.More.drop p5.toNat).take ((p5 + 4).toNat - p5.toNat))) [aF A12 n12 c12 ((a1.More.drop p5.toNat).take ((p5 + 4).toNat - p5.toNat)), aF A2 n2 c2 a1.Slots, aF A3 n3 c3 a1.More, bY B1 42 [iV a1.Kind, iV a1.Shape, iV a1.Flags, iV a1.Age, .slice A2 n2 c2, .slice A3 n3 c3]] hY hy13 rfl rfl ⟨_, _, _, rfl, rfl⟩ (cA 0 rfl rfl)) ?_
  rintro _ _ ⟨rfl, rfl⟩
  refine run ?_
  refine ar rfl (fun g14 => ?_) (fun g14 => ?_)
  ·replace h := ag g14 h
   refine run ?_
   obtain rfl := ak h
   exact vb rfl (ab [] 4 rfl rfl) ⟨rfl, rfl⟩
  replace h := ah g14 h
  refine run ?_
  obtain ⟨q15, h⟩ := ao h
  refine gE (aN rfl rfl q15.1 q15.2) ?_
  refine run ?_
  exact ⟨m4, _, _, Nat.lt_succ_self _, ⟨p5 + 4, y13.2, h, rfl, rfl⟩, sA, ab [1, 2, 3] 4 rfl rfl⟩
 replace h := ah g8 h
 refine run ?_
 obtain rfl := ak h
 exact nJ rfl (ab [] 3 rfl rfl) ⟨rfl, rfl⟩
def gK (N : Nat) (a0 : DCell) : Option Unit :=
 some ()
theorem oK {N : Nat} {a0 : DCell} {r : Unit} (h : gK N a0 = some r) : Okc Try.prog 117 [.agg #[iV a0.Kind, iV a0.Shape, iV a0.Flags, iV a0.Age, .slice A1 n1 c1, .slice A2 n2 c2]] ([aF A1 n1 c1 a0.Slots, aF A2 n2 c2 a0.More]) (fun u post => ∃ B900, u = .func (.func 143) #[] #[pV B900 0] ∧ post = [aq B900 42 [iV a0.Kind, iV a0.Shape, iV a0.Flags, iV a0.Age, .slice A1 n1 c1, .slice A2 n2 c2]]) := by
 refine bz Try.func117 rfl rfl ?_
 simp only [aQ]
 refine run ?_
 refine gD (aU rfl rfl) ?_
 rintro _ _ ⟨B3, rfl, rfl⟩
 refine run ?_
 refine gE (eW rfl) ?_
 refine run ?_
 obtain rfl := ak h
 exact aB rfl rfl (ab [0] 3 rfl rfl) ⟨_, rfl, rfl⟩
theorem mV {a0 : DCell} {A1 : Option Addr} {n1 : Nat} {c1 : Nat} {A2 : Option Addr} {n2 : Nat} {c2 : Nat} : ∀ v post, ((fun (u : Value) (post : List Chunk) => ∃ B900, u = .func (.func 143) #[] #[pV B900 0] ∧ post = [aq B900 42 [iV a0.Kind, iV a0.Shape, iV a0.Flags, iV a0.Age, .slice A1 n1 c1, .slice A2 n2 c2]])) v post → ∀ c ∈ post, bX c := by
 rintro _ _ ⟨_, rfl, rfl⟩; exact mem_cons lZ (aj)
def fj (N : Nat) (x28 : (Int × (List DValue))) (a0 : DCell) (p14 : (List (Int × Bool))) (y21 : (DCell)) (p30 : (List DValue)) (p31 : (List DValue)) (p46 : Int) (p47 : Int) (p48 : ByteArray) : Option (Option Exit × (List DValue) × (List DValue)) :=
 (aH x28.2 0).bind fun x51 => (aH x28.2 1).bind fun x52 => (aH x28.2 3).bind fun x53 => bD (cu (p30.length + ([x51, x52, (⟨p46, p47, p48⟩ : DValue), x53] : List DValue).length)) (some (none, (p30 ++ ([x51, x52, (⟨p46, p47, p48⟩ : DValue), x53] : List DValue), p31)))
def cF (N : Nat) (a0 : DCell) (p14 : (List (Int × Bool))) (y21 : (DCell)) (x28 : Int × (List DValue)) : ((List DValue) × (List DValue)) → Option (Option Exit × ((List DValue) × (List DValue)))
 |(p30, p31) => (aH x28.2 0).bind fun x34 => bif !((lk p14 x34.N).getD false) then ((aH a0.More 0).bind fun x36 => (aH x28.2 1).bind fun x37 => (aH x28.2 3).bind fun x38 => bD (cu (p31.length + ([x36, x37, x38] : List DValue).length)) (some (none, (p30, p31 ++ ([x36, x37, x38] : List DValue))))) else ((aH x28.2 2).bind fun x43 => (bif decide (x43.Kind = 7) then (some (!((lk p14 x43.N).getD false))) else (some false)).bind fun b49 => bif b49 then (fj N x28 a0 p14 y21 p30 p31 0 0 (⟨#[]⟩)) else (fj N x28 a0 p14 y21 p30 p31 x43.Kind x43.N x43.S))
def gL (N : Nat) (a0 : DCell) (p14 : (List (Int × Bool))) : Option (DCell × (List DValue)) :=
 (jU N a0).bind fun y21 => (gK N a0).bind fun y26 => (fx N a0 (cm (fun x st => cF N a0 p14 y21 x st)) (none, (y21.More, []))).bind fun y32 => oW y32.1 (some ((⟨y21.Kind, y21.Shape, y21.Flags, y21.Age, y21.Slots, y32.2.1⟩ : DCell), y32.2.2)) none (fun _ => none)
def finreg_Clean_l15 (N : Nat) (a1 : (List Int)) (a0 : DCell) : Nat → Int → (List (Int × Bool)) → Option (DCell × (List DValue))
 | 0, _, _ => none
 | m15 + 1, p16, p17 => bif decide (p16 < (a1.length : Int)) then ((aH a1 p16).bind fun x19 => bD (aK (p16 + 1)) ((finreg_Clean_l15 N a1 a0 m15) (p16 + 1) (se p17 x19 true))) else (gL N a0 p17)
def gr (N : Nat) (a0 : DCell) (a1 : (List Int)) : Option (DCell × (List DValue)) :=
 (jI N a0).bind fun y6 => bif !y6 then (some ((⟨0, 0, 0, 0, [], []⟩ : DCell), [])) else (finreg_Clean_l15 N a1 a0 N 0 ([] : (List (Int × Bool))))
set_option maxHeartbeats 4000000 in
theorem qm {N : Nat} {a0 : DCell} {a1 : (List Int)} {r : (DCell × (List DValue))} (h : gr N a0 a1 = some r) : Okc Try.prog 80 [.agg #[iV a0.Kind, iV a0.Shape, iV a0.Flags, iV a0.Age, .slice A1 n1 c1, .slice A2 n2 c2], .slice A3 n3 c3] ([aF A1 n1 c1 a0.Slots, aF A2 n2 c2 a0.More, ca A3 n3 c3 a1]) (fun u post => ∃ A0 n0 c0 A1 n1 c1 A2 n2 c2, u = .tuple #[.agg #[iV r.1.Kind, iV r.1.Shape, iV r.1.Flags, iV r.1.Age, .slice A0 n0 c0, .slice A1 n1 c1], .slice A2 n2 c2] ∧ post = [bT A0 n0 c0 r.1.Slots, bT A1 n1 c1 r.1.More, bT A2 n2 c2 r.2]) := by
 refine bz Try.func80 rfl rfl ?_
 simp only [aQ]
 refine run ?_
 refine gD (aU rfl rfl) ?_
 rintro _ _ ⟨B4, rfl, rfl⟩
 refine gD (aS ed rfl) ?_
 rintro _ _ ⟨B5, rfl, rfl⟩
 refine run ?_
 refine av ?_
 refine run ?_
 refine gR (aE (us := [iV a0.Kind, iV a0.Shape, iV a0.Flags, iV a0.Age, .slice A1 n1 c1, .slice A2 n2 c2]) 1 rfl rfl ba rfl) ?_
 obtain ⟨y6, hy6, h⟩ := aa h
 refine gD (al (tL hy6) Bl rfl (mem_cons (am (i := 2) rfl rfl) (mem_cons (am (i := 3) rfl rfl) aj)) rA) ?_
 rintro _ _ ⟨_, ⟨rfl, rfl⟩, rfl⟩
 refine run ?_
 refine ar rfl (fun g7 => ?_) (fun g7 => ?_)
 ·replace h := ag g7 h
  refine run ?_
  refine gE (dJ rfl (tZ)) ?_
  refine gO (ay (us := [iV 0, iV 0, iV 0, iV 0, .slice none 0 0, .slice none 0 0]) (cs' := [iV 0, iV 0, iV 0, iV 0, .slice none 0 0, .slice none 0 0]) 0 rfl rfl rfl rfl bq rfl rfl rfl) ?_
  rintro _ _ rfl
  refine run ?_
  obtain rfl := ak h
  exact eX (rs := [.cell 4 42, .tmp 5]) (vs := [.agg #[iV 0, iV 0, iV 0, iV 0, .slice none 0 0, .slice none 0 0], .slice none 0 0]) rfl (.cons (dD 0 rfl rfl ba) (.cons (i9 rfl) .nil)) rfl ((cz bF 38 _).trans ((cz bF 38 _).trans ((cz bF 38 _).trans (ab [2, 1, 0] 8 rfl rfl)))) ⟨_, _, _, _, _, _, _, _, _, rfl, rfl⟩
 replace h := ah g7 h
 refine run ?_
 refine gR (az 4 rfl ai rfl Try.underlying31) ?_
 refine gD (pQ (ek := dT) (ev := eM) rfl Try.underlying59) ?_
 rintro _ _ ⟨M11, rfl, rfl⟩
 refine gD (aS BY rfl) ?_
 rintro _ _ ⟨B12, rfl, rfl⟩
 refine gO (ay (us := [.map (some M11)]) (cs' := [.map (some M11)]) 0 rfl rfl rfl rfl Ca rfl rfl rfl) ?_
 rintro _ _ rfl
 refine run ?_
 refine aL (fun s L => ∃ p14, gL N a0 p14 = some r ∧ s = [(2, pV B4 0), (4, pV B5 0), (5, .slice none 0 0), (6, pV B12 0)] ∧ L = [aF A1 n1 c1 a0.Slots, aF A2 n2 c2 a0.More, aq B4 42 [iV a0.Kind, iV a0.Shape, iV a0.Flags, iV a0.Age, .slice A1 n1 c1, .slice A2 n2 c2], aq B5 42 [iV 0, iV 0, iV 0, iV 0, .slice none 0 0, .slice none 0 0], bw dT eM M11 p14, aq B12 59 [.map (some M11)]]) ?_ ?_
 ·refine run ?_
  refine gR (az 6 rfl ai rfl Try.underlying31) ?_
  refine run ?_
  refine bc (fun m s L => ∃ p16 p17, finreg_Clean_l15 N a1 a0 m p16 p17 = some r ∧ s = [(2, pV B4 0), (4, pV B5 0), (5, .slice none 0 0), (6, pV B12 0), (21, .slice A3 n3 c3), (22, iV (a1.length : Int)), (23, iV p16)] ∧ L = [ca A3 n3 c3 a1, aF A1 n1 c1 a0.Slots, aF A2 n2 c2 a0.More, aq B4 42 [iV a0.Kind, iV a0.Shape, iV a0.Flags, iV a0.Age, .slice A1 n1 c1, .slice A2 n2 c2], aq B5 42 [iV 0, iV 0, iV 0, iV 0, .slice none 0 0, .slice none 0 0], bw dT eM M11 p17, aq B12 59 [.map (some M11)]]) N _ _ ⟨0, ([] : (List (Int × Bool))), h, rfl, rfl⟩ sA (ab [6, 4, 5, 3, 2, 1, 0] 7 rfl rfl) ?_
  rintro (_ | m15) _ _ ⟨p16, p17, h, rfl, rfl⟩
  ·exact aA h
  rw [finreg_Clean_l15.eq_2] at h
  refine run ?_
  refine av ?_
  refine ar rfl (fun g18 => ?_) (fun g18 => ?_)
  ·replace h := ag g18 h
   refine run ?_
   refine av ?_
   refine run ?_
   obtain ⟨x19, hx19, h⟩ := aa h
   obtain ⟨lx19, ux19, hx19⟩ := ap hx19
   refine gR (aC 0 rfl ai rfl rfl Try.underlying31 eH lx19 ux19) ?_
   refine gR (aX (u := iV x19) 0 rfl ai rfl hx19 dv (fun _ _ _ h => by rw [show _ = _ from h]; rfl)) ?_
   refine run ?_
   refine gO (iM (a := x19) (b := true) 5 rfl rfl rfl rfl Try.underlying59 (eC Try.underlying3)) ?_
   rintro _ _ rfl
   refine ck ([ca A3 n3 c3 a1, aF A1 n1 c1 a0.Slots, aF A2 n2 c2 a0.More, aq B4 42 [iV a0.Kind, iV a0.Shape, iV a0.Flags, iV a0.Age, .slice A1 n1 c1, .slice A2 n2 c2], aq B5 42 [iV 0, iV 0, iV 0, iV 0, .slice none 0 0, .slice none 0 0], bw dT eM M11 (se p17 x19 true), aq B12 59 [.map (some M11)]]) rfl ?_
   refine run ?_
   obtain ⟨q20, h⟩ := ao h
   refine gE (aN rfl rfl q20.1 q20.2) ?_
   refine run ?_
   exact ⟨m15, _, _, Nat.lt_succ_self _, ⟨p16 + 1, se p17 x19 true, h, rfl, rfl⟩, sA, ab [0, 1, 2, 3, 4, 5, 6] 7 rfl rfl⟩
  replace h := ah g18 h
  refine run ?_
  exact ⟨_, _, ⟨p17, h, rfl, rfl⟩, sA, ab [1, 2, 3, 4, 5, 6] 7 rfl rfl⟩
 rintro _ _ ⟨p14, h, rfl, rfl⟩
 refine run ?_
 refine gR (aE (us := [iV a0.Kind, iV a0.Shape, iV a0.Flags, iV a0.Age, .slice A1 n1 c1, .slice A2 n2 c2]) 2 rfl rfl ba rfl) ?_
 obtain ⟨y21, hy21, h⟩ := aa h
 refine gD (al (rB hy21) Bk rfl (mem_cons (am (i := 0) rfl rfl) (mem_cons (am (i := 1) rfl rfl) aj)) pw) ?_
 rintro _ _ ⟨_, ⟨A22, n22, c22, A23, n23, c23, rfl, rfl⟩, rfl⟩
 refine gD (aS ed rfl) ?_
 rintro _ _ ⟨B24, rfl, rfl⟩
 refine gO (ay (us := [iV y21.Kind, iV y21.Shape, iV y21.Flags, iV y21.Age, .slice A22 n22 c22, .slice A23 n23 c23]) (cs' := [iV y21.Kind, iV y21.Shape, iV y21.Flags, iV y21.Age, .slice A22 n22 c22, .slice A23 n23 c23]) 0 rfl rfl rfl rfl bq rfl rfl rfl) ?_
 rintro _ _ rfl
 refine run ?_
 refine gD (aS BZ rfl) ?_
 rintro _ _ ⟨B25, rfl, rfl⟩
 refine run ?_
 refine av ?_
 refine run ?_
 refine gR (aE (us := [iV a0.Kind, iV a0.Shape, iV a0.Flags, iV a0.Age, .slice A1 n1 c1, .slice A2 n2 c2]) 6 rfl rfl ba rfl) ?_
 obtain ⟨y26, hy26, h⟩ := aa h
 refine gD (al (oK hy26) Bj rfl (mem_cons (am (i := 4) rfl rfl) (mem_cons (am (i := 5) rfl rfl) aj)) mV) ?_
 rintro _ _ ⟨_, ⟨B27, rfl, rfl⟩, rfl⟩
 refine o3 ?_
 refine kO ?_
 refine fb ?_ cI (fZ 0 rfl)
 obtain ⟨y32, hy32, h⟩ := aa h
 refine sV (R := (fun (x : Int × (List DValue)) vs cs => ∃ A1 n1 c1, vs = [iV x.1, .slice A1 n1 c1] ∧ cs = [aF A1 n1 c1 x.2])) (fun x st => cF N a0 p14 y21 x st) (fun (st : (List DValue) × (List DValue)) (mz : ((Option Addr × Nat × Nat) × (Option Addr × Nat × Nat))) => [aF A1 n1 c1 a0.Slots, aF A2 n2 c2 a0.More, aq B4 42 [iV a0.Kind, iV a0.Shape, iV a0.Flags, iV a0.Age, .slice A1 n1 c1, .slice A2 n2 c2], aq B5 42 [iV 0, iV 0, iV 0, iV 0, .slice none 0 0, .slice none 0 0], bw dT eM M11 p14, aq B12 59 [.map (some M11)], bT A22 n22 c22 y21.Slots, gj bF 38 (.slice mz.1.1 mz.1.2.1 mz.1.2.2) st.1, aq B24 42 [iV y21.Kind, iV y21.Shape, iV y21.Flags, iV y21.Age, .slice A22 n22 c22, .slice mz.1.1 mz.1.2.1 mz.1.2.2], gj bF 38 (.slice mz.2.1 mz.2.2.1 mz.2.2.2) st.2, aq B25 25 [.slice mz.2.1 mz.2.2.1 mz.2.2.2]]) [bY B27 42 [iV a0.Kind, iV a0.Shape, iV a0.Flags, iV a0.Age, .slice A1 n1 c1, .slice A2 n2 c2], aF A1 n1 c1 a0.Slots, aF A2 n2 c2 a0.More] ((y21.More, [])) (((A23, n23, c23), (none, 0, 0))) rfl rfl Bc rfl (by rintro _ _ _ ⟨_, _, _, rfl, rfl⟩; rfl) (fun l G hY => (md hy32 hY).mono fun _ _ hh => hh.2) ((cz bF 38 _).trans (bO [1, 6, 7] [] [6, 7, 8, 9, 10, 11, 4, 5, 3, 0, 2] 12 rfl)) h ?_ ?_ ?_ ?_
 ·rintro l x28 ⟨p30, p31⟩ je sr28 ⟨⟨A30, n30, c30⟩, ⟨A31, n31, c31⟩⟩ h _ _ ⟨A29, n29, c29, rfl, rfl⟩
  replace h : cF N a0 p14 y21 x28 (p30, p31) = some (je, sr28) := h
  simp only [qn, List.zip_cons_cons, List.zip_nil_left, List.zip_nil_right, List.reverse_cons, List.reverse_nil, List.nil_append, List.cons_append]
  refine run ?_
  refine av ?_
  refine av ?_
  refine dY (by kernel_rfl) _ (ac _) ?_
  refine bL 0 rfl (by kernel_rfl) (bd 6 rfl rfl BL rfl) rfl rfl ?_
  refine aW 1 rfl (by kernel_rfl) (aI rfl) rfl rfl ?_
  obtain ⟨x34, hx34, h⟩ := aa h
  obtain ⟨lx34, ux34, hx34⟩ := ap hx34
  refine bL 2 rfl (by kernel_rfl) (aC 0 rfl ai rfl rfl Try.underlying25 aG lx34 ux34) rfl rfl ?_
  refine bL 3 rfl (by kernel_rfl) (oa 0 rfl ai rfl (bU lx34 ux34) iP) rfl rfl ?_
  refine bL 4 rfl (by kernel_rfl) (aX (u := iV x34.N) 0 rfl ai rfl hx34 dv (fun _ _ _ h => by rw [show _ = _ from h]; rfl)) rfl rfl ?_
  refine bL 5 rfl (by kernel_rfl) (qV (a := x34.N) (z := false) 5 rfl po rfl rfl Try.underlying59 (eC Try.underlying3) uh) rfl rfl ?_
  refine aW 6 rfl (by kernel_rfl) (kX rfl) rfl rfl ?_
  refine dX (by kernel_rfl) ?_
  refine kO ?_
  refine ar rfl (fun g35 => ?_) (fun g35 => ?_)
  ·replace h := ag g35 h
   refine av ?_
   obtain ⟨x36, hx36, h⟩ := aa h
   obtain ⟨lx36, ux36, hx36⟩ := ap hx36
   obtain ⟨x37, hx37, h⟩ := aa h
   obtain ⟨lx37, ux37, hx37⟩ := ap hx37
   obtain ⟨x38, hx38, h⟩ := aa h
   obtain ⟨lx38, ux38, hx38⟩ := ap hx38
   refine fb (t := [(2, pV B4 0), (4, pV B5 0), (5, .slice none 0 0), (6, pV B12 0), (9, pV B24 0), (10, pV B25 0), (12, .slice A29 n29 c29)]) ?_ gX (ac _)
   refine fo (by kernel_rfl) 12 [] [0, 11] [43, 44, 45, 46, 47, 48, 49, 50, 51, 52, 53, 54] [[], [], [1], [2], [3], [], [5], [6], [], [8], [9], [4, 7, 10]] [aV (.slice A31 n31 c31),
aV (pV B4 5),
aV (.slice A2 n2 c2),
aV (bK (.slice A2 n2 c2) ((0 : Int).toNat) 3 0),
aV (.agg #[iV x36.Kind, iV x36.N, .string x36.S]),
aV (.slice A29 n29 c29),
aV (bK (.slice A29 n29 c29) ((1 : Int).toNat) 3 0),
aV (.agg #[iV x37.Kind, iV x37.N, .string x37.S]),
aV (.slice A29 n29 c29),
aV (bK (.slice A29 n29 c29) ((3 : Int).toNat) 3 0),
aV (.agg #[iV x38.Kind, iV x38.N, .string x38.S]),
aX3 (fun (A40 : Option Addr) (n40 c40 : Nat) => .slice A40 n40 c40) (fun A40 n40 c40 => [bT A40 n40 c40 ([x36, x37, x38] : List DValue)])] [] (ac _) (gH) (by kernel_rfl) rfl rfl ?_ ?_ ?_
   ·exact gG
   ·refine ae rfl ?_ ?_
    ·refine jy (bB (R := bF) (vss := [[iV x36.Kind, iV x36.N, .string x36.S], [iV x37.Kind, iV x37.N, .string x37.S], [iV x38.Kind, iV x38.N, .string x38.S]]) (xs := [x36, x37, x38]) rfl (zY _ _ _ _ _ _ _ _ _) rfl rfl (fun _ _ hr => .cons rfl (.cons rfl (.cons rfl All2.nil)))) rfl ?_
     rintro _ _ ⟨A39, n39, c39, rfl, rfl⟩
     exact ig A39 n39 c39 (ac _)
    refine ae rfl ?_ ?_
    ·exact bW (aO (us := [iV x38.Kind, iV x38.N, .string x38.S]) 0 rfl ai rfl hx38 bp (fun _ _ _ h => by rw [show _ = _ from h]; rfl)) rfl (aD rfl (ac _))
    refine ae rfl ?_ ?_
    ·exact bW (aC 0 rfl ai rfl rfl Try.underlying25 aG lx38 ux38) rfl (aD rfl (ac _))
    refine ae rfl ?_ ?_
    ·exact bj (aI rfl) rfl (aD rfl (ac _))
    refine ae rfl ?_ ?_
    ·exact bW (aO (us := [iV x37.Kind, iV x37.N, .string x37.S]) 0 rfl ai rfl hx37 bp (fun _ _ _ h => by rw [show _ = _ from h]; rfl)) rfl (aD rfl (ac _))
    refine ae rfl ?_ ?_
    ·exact bW (aC 0 rfl ai rfl rfl Try.underlying25 aG lx37 ux37) rfl (aD rfl (ac _))
    refine ae rfl ?_ ?_
    ·exact bj (aI rfl) rfl (aD rfl (ac _))
    refine ae rfl ?_ ?_
    ·exact bW (aO (us := [iV x36.Kind, iV x36.N, .string x36.S]) 2 rfl ai rfl hx36 bp (fun _ _ _ h => by rw [show _ = _ from h]; rfl)) rfl (aD rfl (ac _))
    refine ae rfl ?_ ?_
    ·exact bW (aC 2 rfl ai rfl rfl Try.underlying25 aG lx36 ux36) rfl (aD rfl (ac _))
    refine ae rfl ?_ ?_
    ·exact bW (bd 3 rfl rfl ft rfl) rfl (aD rfl (ac _))
    refine ae rfl ?_ ?_
    ·exact bj (cK rfl gt) rfl (aD rfl (ac _))
    refine ae rfl ?_ ?_
    ·exact bW (bd 11 rfl rfl ft rfl) rfl (aD rfl (ac _))
    exact db
   intro A40 n40 c40
   refine jN (t := [(43, .slice A31 n31 c31), (54, .slice A40 n40 c40), (2, pV B4 0), (4, pV B5 0), (5, .slice none 0 0), (6, pV B12 0), (9, pV B24 0), (10, pV B25 0), (12, .slice A29 n29 c29)]) (L' := [bT A40 n40 c40 ([x36, x37, x38] : List DValue), aF A29 n29 c29 x28.2, aF A1 n1 c1 a0.Slots, aF A2 n2 c2 a0.More, aq B4 42 [iV a0.Kind, iV a0.Shape, iV a0.Flags, iV a0.Age, .slice A1 n1 c1, .slice A2 n2 c2], aq B5 42 [iV 0, iV 0, iV 0, iV 0, .slice none 0 0, .slice none 0 0], bw dT eM M11 p14, aq B12 59 [.map (some M11)], bT A22 n22 c22 y21.Slots, bT A30 n30 c30 p30, aq B24 42 [iV y21.Kind, iV y21.Shape, iV y21.Flags, iV y21.Age, .slice A22 n22 c22, .slice A30 n30 c30], bT A31 n31 c31 p31, aq B25 25 [.slice A31 n31 c31]]) ?_ gX (ac _)
   obtain ⟨q41, h⟩ := ao h
   refine sU 12 rfl (by kernel_rfl) (bm 11 0 rfl rfl aM rfl rfl Try.underlying25 yx rfl rfl q41) rfl rfl rfl ?_
   rintro _ _ ⟨A42, n42, c42, rfl, rfl⟩
   refine uf ([bT A40 n40 c40 ([x36, x37, x38] : List DValue), aF A29 n29 c29 x28.2, aF A1 n1 c1 a0.Slots, aF A2 n2 c2 a0.More, aq B4 42 [iV a0.Kind, iV a0.Shape, iV a0.Flags, iV a0.Age, .slice A1 n1 c1, .slice A2 n2 c2], aq B5 42 [iV 0, iV 0, iV 0, iV 0, .slice none 0 0, .slice none 0 0], bw dT eM M11 p14, aq B12 59 [.map (some M11)], bT A22 n22 c22 y21.Slots, bT A30 n30 c30 p30, aq B24 42 [iV y21.Kind, iV y21.Shape, iV y21.Flags, iV y21.Age, .slice A22 n22 c22, .slice A30 n30 c30], bT A42 n42 c42 (p31 ++ ([x36, x37, x38] : List DValue)), aq B25 25 [.slice A31 n31 c31]]) rfl ?_
   refine mq 13 rfl (by kernel_rfl) (ay (us := [.slice A42 n42 c42]) (cs' := [.slice A42 n42 c42]) 12 rfl rfl rfl rfl ip rfl rfl rfl) rfl rfl ?_
   rintro _ _ rfl
   refine gM (by kernel_rfl) ?_
   refine run ?_
   obtain ⟨rfl, rfl⟩ := Prod.mk.inj (Option.some.inj h)
   exact sb ((ab [2, 3, 4, 5, 6, 7, 8, 9, 10, 11, 12] 13 rfl rfl).trans (dq ((A30, n30, c30), (A42, n42, c42)) rfl))
  replace h := ah g35 h
  refine run ?_
  obtain ⟨x43, hx43, h⟩ := aa h
  obtain ⟨lx43, ux43, hx43⟩ := ap hx43
  refine gR (aC 0 rfl ai rfl rfl Try.underlying25 aG lx43 ux43) ?_
  refine gR (aO (us := [iV x43.Kind, iV x43.N, .string x43.S]) 0 rfl ai rfl hx43 bp (fun _ _ _ h => by rw [show _ = _ from h]; rfl)) ?_
  refine gD (aS gz rfl) ?_
  rintro _ _ ⟨B44, rfl, rfl⟩
  refine gO (ay (us := [iV x43.Kind, iV x43.N, .string x43.S]) (cs' := [iV x43.Kind, iV x43.N, .string x43.S]) 0 rfl rfl rfl rfl aG rfl rfl rfl) ?_
  rintro _ _ rfl
  refine run ?_
  refine aL (fun s L => ∃ p46 p47 p48, fj N x28 a0 p14 y21 p30 p31 p46 p47 p48 = some (je, sr28) ∧ s = [(2, pV B4 0), (4, pV B5 0), (5, .slice none 0 0), (6, pV B12 0), (9, pV B24 0), (10, pV B25 0), (12, .slice A29 n29 c29), (13, pV B44 0)] ∧ L = [aF A29 n29 c29 x28.2, aF A1 n1 c1 a0.Slots, aF A2 n2 c2 a0.More, aq B4 42 [iV a0.Kind, iV a0.Shape, iV a0.Flags, iV a0.Age, .slice A1 n1 c1, .slice A2 n2 c2], aq B5 42 [iV 0, iV 0, iV 0, iV 0, .slice none 0 0, .slice none 0 0], bw dT eM M11 p14, aq B12 59 [.map (some M11)], bT A22 n22 c22 y21.Slots, bT A30 n30 c30 p30, aq B24 42 [iV y21.Kind, iV y21.Shape, iV y21.Flags, iV y21.Age, .slice A22 n22 c22, .slice A30 n30 c30], bT A31 n31 c31 p31, aq B25 25 [.slice A31 n31 c31], aq B44 38 [iV p46, iV p47, .string p48]]) ?_ ?_
  ·refine run ?_
   obtain ⟨b49, hb49, h⟩ := aa h
   refine aw 6 68 b49 ?_ ?_
   ·clear h
    refine ax 62 rfl (fun g49 => ?_) (fun g49 => ?_)
    ·have h := ag g49 hb49
     refine run ?_
     refine aZ (qV (a := x43.N) (z := false) 6 rfl po rfl rfl Try.underlying59 (eC Try.underlying3) uh) rfl (aJ g49 rfl) rfl ?_
     refine run ?_
     obtain rfl := ak h
     exact ad sA (ab [0, 1, 2, 3, 4, 5, 6, 7, 8, 9, 10, 11, 12] 13 rfl rfl)
    have h := ah g49 hb49
    refine run ?_
    obtain rfl := ak h
    exact ad sA (ab [0, 1, 2, 3, 4, 5, 6, 7, 8, 9, 10, 11, 12] 13 rfl rfl)
   refine run ?_
   refine ar rfl (fun g50 => ?_) (fun g50 => ?_)
   ·replace h := ag g50 h
    refine cN ?_
    refine gE (dJ rfl (Bw)) ?_
    refine gO (ay (us := [iV 0, iV 0, .string (⟨#[]⟩)]) (cs' := [iV 0, iV 0, .string (⟨#[]⟩)]) 0 rfl rfl rfl rfl aG rfl rfl rfl) ?_
    rintro _ _ rfl
    refine ck ([aq B44 38 [iV 0, iV 0, .string (⟨#[]⟩)], aF A29 n29 c29 x28.2, aF A1 n1 c1 a0.Slots, aF A2 n2 c2 a0.More, aq B4 42 [iV a0.Kind, iV a0.Shape, iV a0.Flags, iV a0.Age, .slice A1 n1 c1, .slice A2 n2 c2], aq B5 42 [iV 0, iV 0, iV 0, iV 0, .slice none 0 0, .slice none 0 0], bw dT eM M11 p14, aq B12 59 [.map (some M11)], bT A22 n22 c22 y21.Slots, bT A30 n30 c30 p30, aq B24 42 [iV y21.Kind, iV y21.Shape, iV y21.Flags, iV y21.Age, .slice A22 n22 c22, .slice A30 n30 c30], bT A31 n31 c31 p31, aq B25 25 [.slice A31 n31 c31]]) rfl ?_
    refine run ?_
    exact ⟨_, _, ⟨0, 0, ⟨#[]⟩, h, rfl, rfl⟩, sA, ab [1, 2, 3, 4, 5, 6, 7, 8, 9, 10, 11, 12, 0] 13 rfl rfl⟩
   replace h := ah g50 h
   refine run ?_
   exact ⟨_, _, ⟨x43.Kind, x43.N, x43.S, h, rfl, rfl⟩, sA, ab [1, 2, 3, 4, 5, 6, 7, 8, 9, 10, 11, 12, 0] 13 rfl rfl⟩
  rintro _ _ ⟨p46, p47, p48, h, rfl, rfl⟩
  obtain ⟨x51, hx51, h⟩ := aa h
  obtain ⟨lx51, ux51, hx51⟩ := ap hx51
  obtain ⟨x52, hx52, h⟩ := aa h
  obtain ⟨lx52, ux52, hx52⟩ := ap hx52
  obtain ⟨x53, hx53, h⟩ := aa h
  obtain ⟨lx53, ux53, hx53⟩ := ap hx53
  refine fb (t := [(2, pV B4 0), (4, pV B5 0), (5, .slice none 0 0), (6, pV B12 0), (9, pV B24 0), (10, pV B25 0), (12, .slice A29 n29 c29), (13, pV B44 0)]) ?_ gX (ac _)
  refine fo (by kernel_rfl) 13 [] [1, 12] [70, 71, 72, 73, 74, 75, 76, 77, 78, 79, 80, 81, 82] [[], [0], [], [2], [3], [], [5], [6], [], [], [9], [10], [4, 7, 8, 11]] [aV (pV B24 5),
aV (.slice A30 n30 c30),
aV (.slice A29 n29 c29),
aV (bK (.slice A29 n29 c29) ((0 : Int).toNat) 3 0),
aV (.agg #[iV x51.Kind, iV x51.N, .string x51.S]),
aV (.slice A29 n29 c29),
aV (bK (.slice A29 n29 c29) ((1 : Int).toNat) 3 0),
aV (.agg #[iV x52.Kind, iV x52.N, .string x52.S]),
aV (.agg #[iV p46, iV p47, .string p48]),
aV (.slice A29 n29 c29),
aV (bK (.slice A29 n29 c29) ((3 : Int).toNat) 3 0),
aV (.agg #[iV x53.Kind, iV x53.N, .string x53.S]),
aX3 (fun (A55 : Option Addr) (n55 c55 : Nat) => .slice A55 n55 c55) (fun A55 n55 c55 => [bT A55 n55 c55 ([x51, x52, (⟨p46, p47, p48⟩ : DValue), x53] : List DValue)])] [] (ac _) (gH) (by kernel_rfl) rfl rfl ?_ ?_ ?_
  ·exact gG
  ·refine ae rfl ?_ ?_
   ·refine jy (bB (R := bF) (vss := [[iV x51.Kind, iV x51.N, .string x51.S], [iV x52.Kind, iV x52.N, .string x52.S], [iV p46, iV p47, .string p48], [iV x53.Kind, iV x53.N, .string x53.S]]) (xs := [x51, x52, (⟨p46, p47, p48⟩ : DValue), x53]) rfl (zX _ _ _ _ _ _ _ _ _ _ _ _) rfl rfl (fun _ _ hr => .cons rfl (.cons rfl (.cons rfl (.cons rfl All2.nil))))) rfl ?_
    rintro _ _ ⟨A54, n54, c54, rfl, rfl⟩
    exact ig A54 n54 c54 (ac _)
   refine ae rfl ?_ ?_
   ·exact bW (aO (us := [iV x53.Kind, iV x53.N, .string x53.S]) 0 rfl ai rfl hx53 bp (fun _ _ _ h => by rw [show _ = _ from h]; rfl)) rfl (aD rfl (ac _))
   refine ae rfl ?_ ?_
   ·exact bW (aC 0 rfl ai rfl rfl Try.underlying25 aG lx53 ux53) rfl (aD rfl (ac _))
   refine ae rfl ?_ ?_
   ·exact bj (aI rfl) rfl (aD rfl (ac _))
   refine ae rfl ?_ ?_
   ·exact bW (aE (us := [iV p46, iV p47, .string p48]) 12 rfl rfl bp rfl) rfl (aD rfl (ac _))
   refine ae rfl ?_ ?_
   ·exact bW (aO (us := [iV x52.Kind, iV x52.N, .string x52.S]) 0 rfl ai rfl hx52 bp (fun _ _ _ h => by rw [show _ = _ from h]; rfl)) rfl (aD rfl (ac _))
   refine ae rfl ?_ ?_
   ·exact bW (aC 0 rfl ai rfl rfl Try.underlying25 aG lx52 ux52) rfl (aD rfl (ac _))
   refine ae rfl ?_ ?_
   ·exact bj (aI rfl) rfl (aD rfl (ac _))
   refine ae rfl ?_ ?_
   ·exact bW (aO (us := [iV x51.Kind, iV x51.N, .string x51.S]) 0 rfl ai rfl hx51 bp (fun _ _ _ h => by rw [show _ = _ from h]; rfl)) rfl (aD rfl (ac _))
   refine ae rfl ?_ ?_
   ·exact bW (aC 0 rfl ai rfl rfl Try.underlying25 aG lx51 ux51) rfl (aD rfl (ac _))
   refine ae rfl ?_ ?_
   ·exact bj (aI rfl) rfl (aD rfl (ac _))
   refine ae rfl ?_ ?_
   ·exact bW (bd 9 rfl rfl ft rfl) rfl (aD rfl (ac _))
   refine ae rfl ?_ ?_
   ·exact bj (cK rfl gt) rfl (aD rfl (ac _))
   exact db
  intro A55 n55 c55
  refine jN (t := [(71, .slice A30 n30 c30), (82, .slice A55 n55 c55), (2, pV B4 0), (4, pV B5 0), (5, .slice none 0 0), (6, pV B12 0), (9, pV B24 0), (10, pV B25 0), (12, .slice A29 n29 c29), (13, pV B44 0)]) (L' := [bT A55 n55 c55 ([x51, x52, (⟨p46, p47, p48⟩ : DValue), x53] : List DValue), aF A29 n29 c29 x28.2, aF A1 n1 c1 a0.Slots, aF A2 n2 c2 a0.More, aq B4 42 [iV a0.Kind, iV a0.Shape, iV a0.Flags, iV a0.Age, .slice A1 n1 c1, .slice A2 n2 c2], aq B5 42 [iV 0, iV 0, iV 0, iV 0, .slice none 0 0, .slice none 0 0], bw dT eM M11 p14, aq B12 59 [.map (some M11)], bT A22 n22 c22 y21.Slots, bT A30 n30 c30 p30, aq B24 42 [iV y21.Kind, iV y21.Shape, iV y21.Flags, iV y21.Age, .slice A22 n22 c22, .slice A30 n30 c30], bT A31 n31 c31 p31, aq B25 25 [.slice A31 n31 c31], aq B44 38 [iV p46, iV p47, .string p48]]) ?_ gX (ac _)
  obtain ⟨q56, h⟩ := ao h
  refine sU 13 rfl (by kernel_rfl) (bm 9 0 rfl rfl aM rfl rfl Try.underlying25 yx rfl rfl q56) rfl rfl rfl ?_
  rintro _ _ ⟨A57, n57, c57, rfl, rfl⟩
  refine oZ 14 rfl (by kernel_rfl) (cK rfl gt) rfl rfl rfl ?_
  refine mq 15 rfl (by kernel_rfl) (ay (us := [.slice A57 n57 c57]) (cs' := [iV y21.Kind, iV y21.Shape, iV y21.Flags, iV y21.Age, .slice A22 n22 c22, .slice A57 n57 c57]) 10 rfl rfl rfl rfl ip rfl rfl rfl) rfl rfl ?_
  rintro _ _ rfl
  refine gM (by kernel_rfl) ?_
  refine CK ?_
  obtain ⟨rfl, rfl⟩ := Prod.mk.inj (Option.some.inj h)
  exact sb ((ab [2, 3, 4, 5, 6, 7, 8, 9, 10, 11, 12] 14 rfl rfl).trans (dq ((A57, n57, c57), (A31, n31, c31)) rfl))
 ·rintro ⟨⟨A30, n30, c30⟩, ⟨A31, n31, c31⟩⟩ h
  refine jO ([aF A1 n1 c1 a0.Slots, aF A2 n2 c2 a0.More, aq B4 42 [iV a0.Kind, iV a0.Shape, iV a0.Flags, iV a0.Age, .slice A1 n1 c1, .slice A2 n2 c2], aq B5 42 [iV 0, iV 0, iV 0, iV 0, .slice none 0 0, .slice none 0 0], bw dT eM M11 p14, aq B12 59 [.map (some M11)], bT A22 n22 c22 y21.Slots, bT A30 n30 c30 y32.2.1, aq B24 42 [iV y21.Kind, iV y21.Shape, iV y21.Flags, iV y21.Age, .slice A22 n22 c22, .slice A30 n30 c30], bT A31 n31 c31 y32.2.2, aq B25 25 [.slice A31 n31 c31]]) rfl ?_
  refine run ?_
  refine av ?_
  refine dY (by kernel_rfl) ([aF A1 n1 c1 a0.Slots, aF A2 n2 c2 a0.More, aq B4 42 [iV a0.Kind, iV a0.Shape, iV a0.Flags, iV a0.Age, .slice A1 n1 c1, .slice A2 n2 c2], bw dT eM M11 p14, aq B12 59 [.map (some M11)], bT A22 n22 c22 y21.Slots, bT A30 n30 c30 y32.2.1, aq B24 42 [iV y21.Kind, iV y21.Shape, iV y21.Flags, iV y21.Age, .slice A22 n22 c22, .slice A30 n30 c30], bT A31 n31 c31 y32.2.2, aq B25 25 [.slice A31 n31 c31]]) (ab [0, 1, 2, 4, 5, 6, 7, 8, 9, 10] 11 rfl rfl) ?_
  refine bL 0 rfl (by kernel_rfl) (aE (us := [iV y21.Kind, iV y21.Shape, iV y21.Flags, iV y21.Age, .slice A22 n22 c22, .slice A30 n30 c30]) 7 rfl rfl ba rfl) rfl rfl ?_
  refine bL 1 rfl (by kernel_rfl) (bd 9 rfl rfl ft rfl) rfl rfl ?_
  refine ud 2 rfl (by kernel_rfl) (ay (us := [iV y21.Kind, iV y21.Shape, iV y21.Flags, iV y21.Age, .slice A22 n22 c22, .slice A30 n30 c30]) (cs' := [iV y21.Kind, iV y21.Shape, iV y21.Flags, iV y21.Age, .slice A22 n22 c22, .slice A30 n30 c30]) 3 rfl rfl rfl rfl bq rfl rfl rfl) rfl rfl ?_
  rintro _ _ rfl
  refine ⟨[aF A1 n1 c1 a0.Slots, aF A2 n2 c2 a0.More, aq B4 42 [iV a0.Kind, iV a0.Shape, iV a0.Flags, iV a0.Age, .slice A1 n1 c1, .slice A2 n2 c2], bw dT eM M11 p14, aq B12 59 [.map (some M11)], bT A22 n22 c22 y21.Slots, bT A30 n30 c30 y32.2.1, aq B24 42 [iV y21.Kind, iV y21.Shape, iV y21.Flags, iV y21.Age, .slice A22 n22 c22, .slice A30 n30 c30], bT A31 n31 c31 y32.2.2, aq B25 25 [.slice A31 n31 c31]], ab [0, 1, 2, 4, 5, 6, 7, 8, 9, 10] 11 rfl rfl, ac _, ?_⟩
  refine iR ([aF A1 n1 c1 a0.Slots, aF A2 n2 c2 a0.More, aq B4 42 [iV a0.Kind, iV a0.Shape, iV a0.Flags, iV a0.Age, .slice A1 n1 c1, .slice A2 n2 c2], aq B5 42 [iV y21.Kind, iV y21.Shape, iV y21.Flags, iV y21.Age, .slice A22 n22 c22, .slice A30 n30 c30], bw dT eM M11 p14, aq B12 59 [.map (some M11)], bT A22 n22 c22 y21.Slots, bT A30 n30 c30 y32.2.1, aq B24 42 [iV y21.Kind, iV y21.Shape, iV y21.Flags, iV y21.Age, .slice A22 n22 c22, .slice A30 n30 c30], bT A31 n31 c31 y32.2.2, aq B25 25 [.slice A31 n31 c31]]) rfl ?_
  refine aW 3 rfl (by kernel_rfl) (bP rfl) rfl rfl ?_
  refine dX (by kernel_rfl) ?_
  refine run ?_
  obtain rfl := ak h
  exact eX (rs := [.cell 4 42, .tmp 5]) (vs := [.agg #[iV y21.Kind, iV y21.Shape, iV y21.Flags, iV y21.Age, .slice A22 n22 c22, .slice A30 n30 c30], .slice A31 n31 c31]) rfl (.cons (dD 3 rfl rfl ba) (.cons (i9 rfl) .nil)) rfl (ab [6, 7, 9] 11 rfl rfl) ⟨_, _, _, _, _, _, _, _, _, rfl, rfl⟩
 ·rintro ⟨⟨A30, n30, c30⟩, ⟨A31, n31, c31⟩⟩ h
  exact aA h
 rintro i ⟨⟨A30, n30, c30⟩, ⟨A31, n31, c31⟩⟩ h
 exact aA h
theorem oL {r : (DCell × (List DValue))} : ∀ v post, ((fun (u : Value) (post : List Chunk) => ∃ A0 n0 c0 A1 n1 c1 A2 n2 c2, u = .tuple #[.agg #[iV r.1.Kind, iV r.1.Shape, iV r.1.Flags, iV r.1.Age, .slice A0 n0 c0, .slice A1 n1 c1], .slice A2 n2 c2] ∧ post = [bT A0 n0 c0 r.1.Slots, bT A1 n1 c1 r.1.More, bT A2 n2 c2 r.2])) v post → ∀ c ∈ post, bX c := by
 rintro _ _ ⟨_, _, _, _, _, _, _, _, _, rfl, rfl⟩; exact mem_cons bE (mem_cons bE (mem_cons bE (aj)))
def fF (N : Nat) (a0 : DCell) (a1 : (List Int)) (a2 : (List DValue)) : Option (DCell × (List DValue)) :=
 bif decide (a0.Kind = 8) then ((iI N a0 a1).bind fun y8 => some (y8, a2)) else (bif decide (a0.Kind = 10) then ((gr N a0 a1).bind fun y12 => bD (cu (a2.length + y12.2.length)) (some (y12.1, a2 ++ y12.2))) else (some (a0, a2)))
theorem lY {N : Nat} {a0 : DCell} {a1 : (List Int)} {a2 : (List DValue)} {r : (DCell × (List DValue))} (h : fF N a0 a1 a2 = some r) : Okc Try.prog 36 [.agg #[iV a0.Kind, iV a0.Shape, iV a0.Flags, iV a0.Age, .slice A1 n1 c1, .slice A2 n2 c2], .slice A3 n3 c3, .slice A4 n4 c4] ([aF A1 n1 c1 a0.Slots, aF A2 n2 c2 a0.More, ca A3 n3 c3 a1, bT A4 n4 c4 a2]) (fun u post => ∃ A0 n0 c0 A1 n1 c1 A2 n2 c2, u = .tuple #[.agg #[iV r.1.Kind, iV r.1.Shape, iV r.1.Flags, iV r.1.Age, .slice A0 n0 c0, .slice A1 n1 c1], .slice A2 n2 c2] ∧ post = [aF A0 n0 c0 r.1.Slots, aF A1 n1 c1 r.1.More, bT A2 n2 c2 r.2]) := by
 refine bz Try.func36 rfl rfl ?_
 simp only [aQ]
 refine run ?_
 refine gD (aU rfl rfl) ?_
 rintro _ _ ⟨B5, rfl, rfl⟩
 refine gD (aS ed rfl) ?_
 rintro _ _ ⟨B6, rfl, rfl⟩
 refine run ?_
 refine av ?_
 refine run ?_
 refine ar rfl (fun g7 => ?_) (fun g7 => ?_)
 ·replace h := ag g7 h
  refine run ?_
  refine gR (aE (us := [iV a0.Kind, iV a0.Shape, iV a0.Flags, iV a0.Age, .slice A1 n1 c1, .slice A2 n2 c2]) 1 rfl rfl ba rfl) ?_
  refine run ?_
  obtain ⟨y8, hy8, h⟩ := aa h
  refine gD (al (rQ hy8) Cw rfl (mem_cons (am (i := 2) rfl rfl) (mem_cons (am (i := 3) rfl rfl) (mem_cons (am (i := 4) rfl rfl) aj))) qc) ?_
  rintro _ _ ⟨_, ⟨A9, n9, c9, A10, n10, c10, rfl, rfl⟩, rfl⟩
  refine run ?_
  refine gO (ay (us := [iV y8.Kind, iV y8.Shape, iV y8.Flags, iV y8.Age, .slice A9 n9 c9, .slice A10 n10 c10]) (cs' := [iV y8.Kind, iV y8.Shape, iV y8.Flags, iV y8.Age, .slice A9 n9 c9, .slice A10 n10 c10]) 2 rfl rfl rfl rfl bq rfl rfl rfl) ?_
  rintro _ _ rfl
  refine run ?_
  obtain rfl := ak h
  exact eX (rs := [.cell 6 42, .tmp 7]) (vs := [.agg #[iV y8.Kind, iV y8.Shape, iV y8.Flags, iV y8.Age, .slice A9 n9 c9, .slice A10 n10 c10], .slice A4 n4 c4]) rfl (.cons (dD 2 rfl rfl ba) (.cons (i9 rfl) .nil)) rfl ((cL 0 rfl).trans ((cL 1 rfl).trans (ab [0, 1, 7] 8 rfl rfl))) ⟨_, _, _, _, _, _, _, _, _, rfl, rfl⟩
 replace h := ah g7 h
 refine run ?_
 refine ar rfl (fun g11 => ?_) (fun g11 => ?_)
 ·replace h := ag g11 h
  refine run ?_
  refine gR (aE (us := [iV a0.Kind, iV a0.Shape, iV a0.Flags, iV a0.Age, .slice A1 n1 c1, .slice A2 n2 c2]) 1 rfl rfl ba rfl) ?_
  refine run ?_
  obtain ⟨y12, hy12, h⟩ := aa h
  refine gD (al (qm hy12) Cu rfl (mem_cons (am (i := 2) rfl rfl) (mem_cons (am (i := 3) rfl rfl) (mem_cons (am (i := 4) rfl rfl) aj))) oL) ?_
  rintro _ _ ⟨_, ⟨A13, n13, c13, A14, n14, c14, A15, n15, c15, rfl, rfl⟩, rfl⟩
  refine run ?_
  refine gD (aS ed rfl) ?_
  rintro _ _ ⟨B16, rfl, rfl⟩
  refine gO (ay (us := [iV y12.1.Kind, iV y12.1.Shape, iV y12.1.Flags, iV y12.1.Age, .slice A13 n13 c13, .slice A14 n14 c14]) (cs' := [iV y12.1.Kind, iV y12.1.Shape, iV y12.1.Flags, iV y12.1.Age, .slice A13 n13 c13, .slice A14 n14 c14]) 0 rfl rfl rfl rfl bq rfl rfl rfl) ?_
  rintro _ _ rfl
  refine run ?_
  refine av ?_
  refine dY (by kernel_rfl) ([aq B16 42 [iV y12.1.Kind, iV y12.1.Shape, iV y12.1.Flags, iV y12.1.Age, .slice A13 n13 c13, .slice A14 n14 c14], bT A13 n13 c13 y12.1.Slots, bT A14 n14 c14 y12.1.More, bT A15 n15 c15 y12.2, aq B5 42 [iV a0.Kind, iV a0.Shape, iV a0.Flags, iV a0.Age, .slice A1 n1 c1, .slice A2 n2 c2], aF A1 n1 c1 a0.Slots, aF A2 n2 c2 a0.More, ca A3 n3 c3 a1]) (ab [0, 1, 2, 3, 5, 6, 7, 8] 10 rfl rfl) ?_
  refine bL 0 rfl (by kernel_rfl) (aE (us := [iV y12.1.Kind, iV y12.1.Shape, iV y12.1.Flags, iV y12.1.Age, .slice A13 n13 c13, .slice A14 n14 c14]) 0 rfl rfl ba rfl) rfl rfl ?_
  refine aW 1 rfl (by kernel_rfl) (aI rfl) rfl rfl ?_
  refine aW 2 rfl (by kernel_rfl) (aI rfl) rfl rfl ?_
  obtain ⟨q17, h⟩ := ao h
  refine ea 3 rfl (by kernel_rfl) (bm 9 3 rfl rfl aM rfl rfl Try.underlying25 yx rfl rfl q17) rfl rfl rfl ?_
  rintro _ _ ⟨A18, n18, c18, rfl, rfl⟩
  refine ⟨[aq B16 42 [iV y12.1.Kind, iV y12.1.Shape, iV y12.1.Flags, iV y12.1.Age, .slice A13 n13 c13, .slice A14 n14 c14], bT A13 n13 c13 y12.1.Slots, bT A14 n14 c14 y12.1.More, bT A15 n15 c15 y12.2, aq B5 42 [iV a0.Kind, iV a0.Shape, iV a0.Flags, iV a0.Age, .slice A1 n1 c1, .slice A2 n2 c2], aF A1 n1 c1 a0.Slots, aF A2 n2 c2 a0.More, ca A3 n3 c3 a1], ab [0, 1, 2, 3, 5, 6, 7, 8] 10 rfl rfl, ac _, ?_⟩
  refine iR ([aq B16 42 [iV y12.1.Kind, iV y12.1.Shape, iV y12.1.Flags, iV y12.1.Age, .slice A13 n13 c13, .slice A14 n14 c14], bT A13 n13 c13 y12.1.Slots, bT A14 n14 c14 y12.1.More, bT A15 n15 c15 y12.2, aq B6 42 [iV 0, iV 0, iV 0, iV 0, .slice none 0 0, .slice none 0 0], aq B5 42 [iV a0.Kind, iV a0.Shape, iV a0.Flags, iV a0.Age, .slice A1 n1 c1, .slice A2 n2 c2], aF A1 n1 c1 a0.Slots, aF A2 n2 c2 a0.More, ca A3 n3 c3 a1, bT A18 n18 c18 (a2 ++ y12.2)]) rfl ?_
  refine ud 4 rfl (by kernel_rfl) (ay (us := [iV y12.1.Kind, iV y12.1.Shape, iV y12.1.Flags, iV y12.1.Age, .slice A13 n13 c13, .slice A14 n14 c14]) (cs' := [iV y12.1.Kind, iV y12.1.Shape, iV y12.1.Flags, iV y12.1.Age, .slice A13 n13 c13, .slice A14 n14 c14]) 4 rfl rfl rfl rfl bq rfl rfl rfl) rfl rfl ?_
  rintro _ _ rfl
  refine ⟨[aq B16 42 [iV y12.1.Kind, iV y12.1.Shape, iV y12.1.Flags, iV y12.1.Age, .slice A13 n13 c13, .slice A14 n14 c14], bT A13 n13 c13 y12.1.Slots, bT A14 n14 c14 y12.1.More, bT A15 n15 c15 y12.2, aq B5 42 [iV a0.Kind, iV a0.Shape, iV a0.Flags, iV a0.Age, .slice A1 n1 c1, .slice A2 n2 c2], aF A1 n1 c1 a0.Slots, aF A2 n2 c2 a0.More, ca A3 n3 c3 a1], ab [0, 1, 2, 3, 5, 6, 7, 8] 10 rfl rfl, ac _, ?_⟩
  refine iR ([aq B16 42 [iV y12.1.Kind, iV y12.1.Shape, iV y12.1.Flags, iV y12.1.Age, .slice A13 n13 c13, .slice A14 n14 c14], bT A13 n13 c13 y12.1.Slots, bT A14 n14 c14 y12.1.More, bT A15 n15 c15 y12.2, aq B6 42 [iV y12.1.Kind, iV y12.1.Shape, iV y12.1.Flags, iV y12.1.Age, .slice A13 n13 c13, .slice A14 n14 c14], aq B5 42 [iV a0.Kind, iV a0.Shape, iV a0.Flags, iV a0.Age, .slice A1 n1 c1, .slice A2 n2 c2], aF A1 n1 c1 a0.Slots, aF A2 n2 c2 a0.More, ca A3 n3 c3 a1, bT A18 n18 c18 (a2 ++ y12.2)]) rfl ?_
  refine aW 5 rfl (by kernel_rfl) (bP rfl) rfl rfl ?_
  refine dX (by kernel_rfl) ?_
  refine run ?_
  obtain rfl := ak h
  exact eX (rs := [.cell 6 42, .tmp 7]) (vs := [.agg #[iV y12.1.Kind, iV y12.1.Shape, iV y12.1.Flags, iV y12.1.Age, .slice A13 n13 c13, .slice A14 n14 c14], .slice A18 n18 c18]) rfl (.cons (dD 4 rfl rfl ba) (.cons (i9 rfl) .nil)) rfl ((cL 1 rfl).trans ((cL 2 rfl).trans (ab [1, 2, 9] 10 rfl rfl))) ⟨_, _, _, _, _, _, _, _, _, rfl, rfl⟩
 replace h := ah g11 h
 refine run ?_
 refine gR (aE (us := [iV a0.Kind, iV a0.Shape, iV a0.Flags, iV a0.Age, .slice A1 n1 c1, .slice A2 n2 c2]) 1 rfl rfl ba rfl) ?_
 refine run ?_
 refine gO (ay (us := [iV a0.Kind, iV a0.Shape, iV a0.Flags, iV a0.Age, .slice A1 n1 c1, .slice A2 n2 c2]) (cs' := [iV a0.Kind, iV a0.Shape, iV a0.Flags, iV a0.Age, .slice A1 n1 c1, .slice A2 n2 c2]) 0 rfl rfl rfl rfl bq rfl rfl rfl) ?_
 rintro _ _ rfl
 refine ck ([aq B6 42 [iV a0.Kind, iV a0.Shape, iV a0.Flags, iV a0.Age, .slice A1 n1 c1, .slice A2 n2 c2], aq B5 42 [iV a0.Kind, iV a0.Shape, iV a0.Flags, iV a0.Age, .slice A1 n1 c1, .slice A2 n2 c2], aF A1 n1 c1 a0.Slots, aF A2 n2 c2 a0.More, ca A3 n3 c3 a1, bT A4 n4 c4 a2]) rfl ?_
 refine run ?_
 obtain rfl := ak h
 exact eX (rs := [.cell 6 42, .tmp 7]) (vs := [.agg #[iV a0.Kind, iV a0.Shape, iV a0.Flags, iV a0.Age, .slice A1 n1 c1, .slice A2 n2 c2], .slice A4 n4 c4]) rfl (.cons (dD 0 rfl rfl ba) (.cons (i9 rfl) .nil)) rfl (ab [2, 3, 5] 6 rfl rfl) ⟨_, _, _, _, _, _, _, _, _, rfl, rfl⟩
def jx (N : Nat) (y21 : (DCell)) (p25 : (List DValue)) (p26 : (List DValue)) : Option DCell :=
 some (⟨y21.Kind, y21.Shape, y21.Flags, y21.Age, p25, p26⟩ : DCell)
def jv (N : Nat) (p9 : (List (Int × Int))) (p29 : (List DValue)) (y21 : (DCell)) (p44 : (List DValue)) : Option DCell :=
 jx N y21 p29 p44
def gw (N : Nat) (kb45 : (List DValue) → Int → Option DCell) (y21 : (DCell)) (p47 : Int) (p9 : (List (Int × Int))) (p29 : (List DValue)) (p50 : (List DValue)) : Option DCell :=
 bD (aK (p47 + 1)) (kb45 p50 (p47 + 1))
def cell_Moved_l45 (N : Nat) (y21 : (DCell)) (p9 : (List (Int × Int))) (p29 : (List DValue)) : Nat → (List DValue) → Int → Option DCell
 | 0, _, _ => none
 | m45 + 1, p46, p47 => bif decide (p47 < (y21.More.length : Int)) then ((aH p46 p47).bind fun x51 => (bif (lk p9 x51.N).isSome then ((fk N x51).bind fun y54 => some y54) else (some false)).bind fun b53 => bif b53 then ((aH p46 p47).bind fun x56 => gw N (cell_Moved_l45 N y21 p9 p29 m45) y21 p47 p9 p29 (List.set p46 p47.toNat (⟨x56.Kind, (lk p9 x51.N).getD 0, x56.S⟩ : DValue))) else (gw N (cell_Moved_l45 N y21 p9 p29 m45) y21 p47 p9 p29 p46)) else (jv N p9 p29 y21 p46)
def jw (N : Nat) (p9 : (List (Int × Int))) (y21 : (DCell)) (p29 : (List DValue)) : Option DCell :=
 cell_Moved_l45 N y21 p9 p29 N y21.More 0
def gx (N : Nat) (kb30 : (List DValue) → Int → Option DCell) (y21 : (DCell)) (p32 : Int) (p9 : (List (Int × Int))) (p35 : (List DValue)) : Option DCell :=
 bD (aK (p32 + 1)) (kb30 p35 (p32 + 1))
def cell_Moved_l30 (N : Nat) (y21 : (DCell)) (p9 : (List (Int × Int))) : Nat → (List DValue) → Int → Option DCell
 | 0, _, _ => none
 | m30 + 1, p31, p32 => bif decide (p32 < (y21.Slots.length : Int)) then ((aH p31 p32).bind fun x36 => (bif (lk p9 x36.N).isSome then ((fk N x36).bind fun y39 => some y39) else (some false)).bind fun b38 => bif b38 then ((aH p31 p32).bind fun x41 => gx N (cell_Moved_l30 N y21 p9 m30) y21 p32 p9 (List.set p31 p32.toNat (⟨x41.Kind, (lk p9 x36.N).getD 0, x41.S⟩ : DValue))) else (gx N (cell_Moved_l30 N y21 p9 m30) y21 p32 p9 p31)) else (jw N p9 y21 p31)
def gV (N : Nat) (a0 : DCell) (p9 : (List (Int × Int))) : Option DCell :=
 (eZ N a0).bind fun y21 => cell_Moved_l30 N y21 p9 N y21.Slots 0
def eY (N : Nat) (kb10 : (List (Int × Int)) → Int → Option DCell) (a1 : (List Int)) (p12 : Int) (a2 : (List Int)) (a0 : DCell) (p15 : (List (Int × Int))) : Option DCell :=
 bD (aK (p12 + 1)) (kb10 p15 (p12 + 1))
def cell_Moved_l10 (N : Nat) (a1 : (List Int)) (a2 : (List Int)) (a0 : DCell) : Nat → (List (Int × Int)) → Int → Option DCell
 | 0, _, _ => none
 | m10 + 1, p11, p12 => bif decide (p12 < (a1.length : Int)) then ((aH a1 p12).bind fun x16 => bif (lk p11 x16).isSome then (eY N (cell_Moved_l10 N a1 a2 a0 m10) a1 p12 a2 a0 p11) else (bif decide (p12 < (a2.length : Int)) then ((aH a2 p12).bind fun x19 => eY N (cell_Moved_l10 N a1 a2 a0 m10) a1 p12 a2 a0 (se (se p11 x16 x16) x16 x19)) else (eY N (cell_Moved_l10 N a1 a2 a0 m10) a1 p12 a2 a0 (se p11 x16 x16)))) else (gV N a0 p11)
def dN (N : Nat) (a0 : DCell) (a1 : (List Int)) (a2 : (List Int)) : Option DCell :=
 cell_Moved_l10 N a1 a2 a0 N ([] : (List (Int × Int))) 0
set_option maxHeartbeats 4000000 in
theorem jZ {N : Nat} {a0 : DCell} {a1 : (List Int)} {a2 : (List Int)} {r : DCell} (h : dN N a0 a1 a2 = some r) : Okc Try.prog 37 [.agg #[iV a0.Kind, iV a0.Shape, iV a0.Flags, iV a0.Age, .slice A1 n1 c1, .slice A2 n2 c2], .slice A3 n3 c3, .slice A4 n4 c4] ([aF A1 n1 c1 a0.Slots, aF A2 n2 c2 a0.More, ca A3 n3 c3 a1, ca A4 n4 c4 a2]) (fun u post => ∃ A0 n0 c0 A1 n1 c1, u = .agg #[iV r.Kind, iV r.Shape, iV r.Flags, iV r.Age, .slice A0 n0 c0, .slice A1 n1 c1] ∧ post = [bT A0 n0 c0 r.Slots, bT A1 n1 c1 r.More]) := by
 refine bz Try.func37 rfl rfl ?_
 simp only [aQ]
 refine run ?_
 refine gD (aU rfl rfl) ?_
 rintro _ _ ⟨B5, rfl, rfl⟩
 refine gD (aS ed rfl) ?_
 rintro _ _ ⟨B6, rfl, rfl⟩
 refine run ?_
 refine gR (az 4 rfl ai rfl Try.underlying31) ?_
 refine gD (pQ (ek := dT) (ev := yu) rfl Try.underlying83) ?_
 rintro _ _ ⟨M7, rfl, rfl⟩
 refine run ?_
 refine aL (fun s L => ∃ p9, gV N a0 p9 = some r ∧ s = [(3, pV B5 0), (6, pV B6 0), (7, .map (some M7))] ∧ L = [bw dT yu M7 p9, aF A1 n1 c1 a0.Slots, aF A2 n2 c2 a0.More, aq B5 42 [iV a0.Kind, iV a0.Shape, iV a0.Flags, iV a0.Age, .slice A1 n1 c1, .slice A2 n2 c2], aq B6 42 [iV 0, iV 0, iV 0, iV 0, .slice none 0 0, .slice none 0 0]]) ?_ ?_
 ·refine run ?_
  refine gR (az 5 rfl ai rfl Try.underlying31) ?_
  refine run ?_
  refine bc (fun m s L => ∃ p11 p12, cell_Moved_l10 N a1 a2 a0 m p11 p12 = some r ∧ s = [(2, .slice A4 n4 c4), (3, pV B5 0), (6, pV B6 0), (7, .map (some M7)), (21, .slice A3 n3 c3), (22, iV (a1.length : Int)), (23, iV p12)] ∧ L = [ca A4 n4 c4 a2, bw dT yu M7 p11, ca A3 n3 c3 a1, aF A1 n1 c1 a0.Slots, aF A2 n2 c2 a0.More, aq B5 42 [iV a0.Kind, iV a0.Shape, iV a0.Flags, iV a0.Age, .slice A1 n1 c1, .slice A2 n2 c2], aq B6 42 [iV 0, iV 0, iV 0, iV 0, .slice none 0 0, .slice none 0 0]]) N _ _ ⟨([] : (List (Int × Int))), 0, h, rfl, rfl⟩ sA (ab [6, 0, 5, 3, 4, 2, 1] 7 rfl rfl) ?_
  rintro (_ | m10) _ _ ⟨p11, p12, h, rfl, rfl⟩
  ·exact aA h
  rw [cell_Moved_l10.eq_2] at h
  refine run ?_
  refine av ?_
  refine ar rfl (fun g13 => ?_) (fun g13 => ?_)
  ·replace h := ag g13 h
   refine run ?_
   refine aL (fun s L => ∃ p15, eY N (cell_Moved_l10 N a1 a2 a0 m10) a1 p12 a2 a0 p15 = some r ∧ s = [(2, .slice A4 n4 c4), (3, pV B5 0), (6, pV B6 0), (7, .map (some M7)), (21, .slice A3 n3 c3), (22, iV (a1.length : Int)), (23, iV p12)] ∧ L = [ca A4 n4 c4 a2, bw dT yu M7 p15, ca A3 n3 c3 a1, aF A1 n1 c1 a0.Slots, aF A2 n2 c2 a0.More, aq B5 42 [iV a0.Kind, iV a0.Shape, iV a0.Flags, iV a0.Age, .slice A1 n1 c1, .slice A2 n2 c2], aq B6 42 [iV 0, iV 0, iV 0, iV 0, .slice none 0 0, .slice none 0 0]]) ?_ ?_
   ·refine run ?_
    obtain ⟨x16, hx16, h⟩ := aa h
    obtain ⟨lx16, ux16, hx16⟩ := ap hx16
    refine gR (aC 2 rfl ai rfl rfl Try.underlying31 eH lx16 ux16) ?_
    refine gR (aX (u := iV x16) 2 rfl ai rfl hx16 dv (fun _ _ _ h => by rw [show _ = _ from h]; rfl)) ?_
    refine run ?_
    refine av ?_
    refine run ?_
    refine gR (qU (a := x16) (z := 0) 1 rfl po rfl rfl Try.underlying83 (eC Try.underlying3) yw) ?_
    refine run ?_
    refine ar rfl (fun g17 => ?_) (fun g17 => ?_)
    ·replace h := ag g17 h
     refine run ?_
     exact ⟨_, _, ⟨p11, h, rfl, rfl⟩, sA, ab [0, 1, 2, 3, 4, 5, 6] 7 rfl rfl⟩
    replace h := ah g17 h
    refine run ?_
    refine gO (iM (a := x16) (b := x16) 1 rfl rfl rfl rfl Try.underlying83 (eC Try.underlying3)) ?_
    rintro _ _ rfl
    refine run ?_
    refine gR (az 0 rfl ai rfl Try.underlying31) ?_
    refine run ?_
    refine ar rfl (fun g18 => ?_) (fun g18 => ?_)
    ·replace h := ag g18 h
     refine run ?_
     obtain ⟨x19, hx19, h⟩ := aa h
     obtain ⟨lx19, ux19, hx19⟩ := ap hx19
     refine gR (aC 0 rfl ai rfl rfl Try.underlying31 eH lx19 ux19) ?_
     refine gR (aX (u := iV x19) 0 rfl ai rfl hx19 dv (fun _ _ _ h => by rw [show _ = _ from h]; rfl)) ?_
     refine gO (iM (a := x16) (b := x19) 1 rfl rfl rfl rfl Try.underlying83 (eC Try.underlying3)) ?_
     rintro _ _ rfl
     refine run ?_
     exact ⟨_, _, ⟨se (se p11 x16 x16) x16 x19, h, rfl, rfl⟩, sA, ab [0, 1, 2, 3, 4, 5, 6] 7 rfl rfl⟩
    replace h := ah g18 h
    refine run ?_
    exact ⟨_, _, ⟨se p11 x16 x16, h, rfl, rfl⟩, sA, ab [0, 1, 2, 3, 4, 5, 6] 7 rfl rfl⟩
   rintro _ _ ⟨p15, h, rfl, rfl⟩
   refine cN ?_
   obtain ⟨q20, h⟩ := ao h
   refine gE (aN rfl rfl q20.1 q20.2) ?_
   refine run ?_
   exact ⟨m10, _, _, Nat.lt_succ_self _, ⟨p15, p12 + 1, h, rfl, rfl⟩, sA, ab [0, 1, 2, 3, 4, 5, 6] 7 rfl rfl⟩
  replace h := ah g13 h
  refine run ?_
  exact ⟨_, _, ⟨p11, h, rfl, rfl⟩, sA, ab [1, 3, 4, 5, 6] 7 rfl rfl⟩
 rintro _ _ ⟨p9, h, rfl, rfl⟩
 refine run ?_
 refine gR (aE (us := [iV a0.Kind, iV a0.Shape, iV a0.Flags, iV a0.Age, .slice A1 n1 c1, .slice A2 n2 c2]) 3 rfl rfl ba rfl) ?_
 obtain ⟨y21, hy21, h⟩ := aa h
 refine gD (al (oV hy21) zH rfl (mem_cons (am (i := 1) rfl rfl) (mem_cons (am (i := 2) rfl rfl) aj)) mn) ?_
 rintro _ _ ⟨_, ⟨A22, n22, c22, A23, n23, c23, rfl, rfl⟩, rfl⟩
 refine gO (ay (us := [iV y21.Kind, iV y21.Shape, iV y21.Flags, iV y21.Age, .slice A22 n22 c22, .slice A23 n23 c23]) (cs' := [iV y21.Kind, iV y21.Shape, iV y21.Flags, iV y21.Age, .slice A22 n22 c22, .slice A23 n23 c23]) 5 rfl rfl rfl rfl bq rfl rfl rfl) ?_
 rintro _ _ rfl
 refine ck ([bT A22 n22 c22 y21.Slots, bT A23 n23 c23 y21.More, bw dT yu M7 p9, aF A1 n1 c1 a0.Slots, aF A2 n2 c2 a0.More, aq B5 42 [iV y21.Kind, iV y21.Shape, iV y21.Flags, iV y21.Age, .slice A22 n22 c22, .slice A23 n23 c23], aq B6 42 [iV 0, iV 0, iV 0, iV 0, .slice none 0 0, .slice none 0 0]]) rfl ?_
 refine run ?_
 refine aL (fun s L => ∃ p25 p26 A25 n25 c25 A26 n26 c26, jx N y21 p25 p26 = some r ∧ s = [(3, pV B5 0), (6, pV B6 0)] ∧ L = [bT A25 n25 c25 p25, bT A26 n26 c26 p26, aq B5 42 [iV y21.Kind, iV y21.Shape, iV y21.Flags, iV y21.Age, .slice A25 n25 c25, .slice A26 n26 c26], aq B6 42 [iV 0, iV 0, iV 0, iV 0, .slice none 0 0, .slice none 0 0]]) ?_ ?_
 ·refine run ?_
  refine gD (nD (cs := [.slice A22 n22 c22, .slice A23 n23 c23]) rfl (yk _ _ _ _ _ _)) ?_
  rintro _ _ ⟨B27, rfl, rfl⟩
  refine gE (jp rfl Try.underlying101) ?_
  refine run ?_
  refine ms 3 ?_
  refine nN ?_
  refine run ?_
  refine av ?_
  refine fI rfl ?_
  refine run ?_
  refine aL (fun s L => ∃ p29 A29 n29 c29, jw N p9 y21 p29 = some r ∧ s = [(3, pV B5 0), (6, pV B6 0), (7, .map (some M7)), (55, .slice (some ⟨B27, 0, none⟩) 2 2), (56, iV 2), (57, iV 0)] ∧ L = [bw dT yu M7 p9, bT A29 n29 c29 p29, bT A23 n23 c23 y21.More, aq B5 42 [iV y21.Kind, iV y21.Shape, iV y21.Flags, iV y21.Age, .slice A29 n29 c29, .slice A23 n23 c23], aq B6 42 [iV 0, iV 0, iV 0, iV 0, .slice none 0 0, .slice none 0 0], aq B27 25 [.slice A29 n29 c29, .slice A23 n23 c23]]) ?_ ?_
  ·refine run ?_
   refine gE (jq rfl rfl Try.underlying101 ip (by decide) (by decide)) ?_
   refine run ?_
   refine gR (az 1 rfl aM rfl Try.underlying25) ?_
   refine run ?_
   refine bc (fun m s L => ∃ p31 p32 A31 n31 c31, cell_Moved_l30 N y21 p9 m p31 p32 = some r ∧ s = [(3, pV B5 0), (6, pV B6 0), (7, .map (some M7)), (13, .slice A31 n31 c31), (55, .slice (some ⟨B27, 0, none⟩) 2 2), (56, iV 2), (57, iV 0), (61, .slice A31 n31 c31), (62, iV (y21.Slots.length : Int)), (63, iV p32)] ∧ L = [bw dT yu M7 p9, bT A31 n31 c31 p31, bT A23 n23 c23 y21.More, aq B5 42 [iV y21.Kind, iV y21.Shape, iV y21.Flags, iV y21.Age, .slice A31 n31 c31, .slice A23 n23 c23], aq B6 42 [iV 0, iV 0, iV 0, iV 0, .slice none 0 0, .slice none 0 0], aq B27 25 [.slice A31 n31 c31, .slice A23 n23 c23]]) N _ _ ⟨y21.Slots, 0, A22, n22, c22, h, rfl, rfl⟩ sA (ab [3, 1, 2, 6, 7, 0] 8 rfl rfl) ?_
   rintro (_ | m30) _ _ ⟨p31, p32, A31, n31, c31, h, rfl, rfl⟩
   ·exact aA h
   rw [cell_Moved_l30.eq_2] at h
   refine run ?_
   refine av ?_
   refine ar rfl (fun g33 => ?_) (fun g33 => ?_)
   ·replace h := ag g33 h
    refine run ?_
    refine aL (fun s L => ∃ p35 A35 n35 c35, gx N (cell_Moved_l30 N y21 p9 m30) y21 p32 p9 p35 = some r ∧ s = [(3, pV B5 0), (6, pV B6 0), (7, .map (some M7)), (13, .slice A35 n35 c35), (55, .slice (some ⟨B27, 0, none⟩) 2 2), (56, iV 2), (57, iV 0), (61, .slice A35 n35 c35), (62, iV (y21.Slots.length : Int)), (63, iV p32)] ∧ L = [bw dT yu M7 p9, bT A35 n35 c35 p35, bT A23 n23 c23 y21.More, aq B5 42 [iV y21.Kind, iV y21.Shape, iV y21.Flags, iV y21.Age, .slice A35 n35 c35, .slice A23 n23 c23], aq B6 42 [iV 0, iV 0, iV 0, iV 0, .slice none 0 0, .slice none 0 0], aq B27 25 [.slice A35 n35 c35, .slice A23 n23 c23]]) ?_ ?_
    ·refine run ?_
     obtain ⟨x36, hx36, h⟩ := aa h
     obtain ⟨lx36, ux36, hx36⟩ := ap hx36
     refine gR (aC 1 rfl aM rfl rfl Try.underlying25 aG lx36 ux36) ?_
     refine gR (aO (us := [iV x36.Kind, iV x36.N, .string x36.S]) 1 rfl aM rfl hx36 bp (fun _ _ _ h => by rw [show _ = _ from h]; rfl)) ?_
     refine gD (aS gz rfl) ?_
     rintro _ _ ⟨B37, rfl, rfl⟩
     refine run ?_
     refine gO (ay (us := [iV x36.Kind, iV x36.N, .string x36.S]) (cs' := [iV x36.Kind, iV x36.N, .string x36.S]) 0 rfl rfl rfl rfl aG rfl rfl rfl) ?_
     rintro _ _ rfl
     refine run ?_
     refine gR (qU (a := x36.N) (z := 0) 1 rfl po rfl rfl Try.underlying83 (eC Try.underlying3) yw) ?_
     refine run ?_
     obtain ⟨b38, hb38, h⟩ := aa h
     refine aw 3 79 b38 ?_ ?_
     ·clear h
      refine ax 76 rfl (fun g38 => ?_) (fun g38 => ?_)
      ·have h := ag g38 hb38
       refine aZ (aE (us := [iV x36.Kind, iV x36.N, .string x36.S]) 0 rfl rfl bp rfl) rfl (aJ g38 rfl) rfl ?_
       obtain ⟨y39, hy39, h⟩ := aa h
       refine bM (al (jX hy39) ws rfl (aj) iv) rfl (aJ g38 rfl) rfl ?_
       rintro _ _ ⟨_, ⟨rfl, rfl⟩, rfl⟩
       refine run ?_
       obtain rfl := ak h
       exact ad sA (ab [0, 1, 2, 3, 4, 5, 6] 7 rfl rfl)
      have h := ah g38 hb38
      refine run ?_
      obtain rfl := ak h
      exact ad sA (ab [0, 1, 2, 3, 4, 5, 6] 7 rfl rfl)
     refine run ?_
     refine ar rfl (fun g40 => ?_) (fun g40 => ?_)
     ·replace h := ag g40 h
      refine run ?_
      obtain ⟨x41, hx41, h⟩ := aa h
      obtain ⟨lx41, ux41, hx41⟩ := ap hx41
      refine gR (aC 2 rfl aM rfl rfl Try.underlying25 aG lx41 ux41) ?_
      refine gR (oa 2 rfl aM rfl (bU lx41 ux41) iP) ?_
      refine gO (su (us := [iV ((lk p9 x36.N).getD 0)]) (z := (⟨x41.Kind, (lk p9 x36.N).getD 0, x41.S⟩ : DValue)) 2 rfl rfl rfl rfl eH rfl (bU lx41 ux41) rfl (fun S w vs xk hk hr ho => by obtain rfl := Option.some.inj (hk.symm.trans hx41); rw [show _ = _ from hr]; rfl)) ?_
      rintro _ _ rfl
      refine run ?_
      exact ⟨_, _, ⟨List.set p31 p32.toNat (⟨x41.Kind, (lk p9 x36.N).getD 0, x41.S⟩ : DValue), A31, n31, c31, h, rfl, rfl⟩, sA, ab [1, 2, 3, 4, 5, 6] 7 rfl rfl⟩
     replace h := ah g40 h
     refine run ?_
     exact ⟨_, _, ⟨p31, A31, n31, c31, h, rfl, rfl⟩, sA, ab [1, 2, 3, 4, 5, 6] 7 rfl rfl⟩
    rintro _ _ ⟨p35, A35, n35, c35, h, rfl, rfl⟩
    refine cN ?_
    obtain ⟨q42, h⟩ := ao h
    refine gE (aN rfl rfl q42.1 q42.2) ?_
    refine run ?_
    exact ⟨m30, _, _, Nat.lt_succ_self _, ⟨p35, p32 + 1, A35, n35, c35, h, rfl, rfl⟩, sA, ab [0, 1, 2, 3, 4, 5] 6 rfl rfl⟩
   replace h := ah g33 h
   refine run ?_
   exact ⟨_, _, ⟨p31, A31, n31, c31, h, rfl, rfl⟩, sA, ab [0, 1, 2, 3, 4, 5] 6 rfl rfl⟩
  rintro _ _ ⟨p29, A29, n29, c29, h, rfl, rfl⟩
  refine cN ?_
  refine gE (aN rfl rfl (by decide) (by decide)) ?_
  refine run ?_
  refine nN ?_
  refine run ?_
  refine av ?_
  refine fI rfl ?_
  refine run ?_
  refine aL (fun s L => ∃ p44 A44 n44 c44, jv N p9 p29 y21 p44 = some r ∧ s = [(3, pV B5 0), (6, pV B6 0), (7, .map (some M7)), (55, .slice (some ⟨B27, 0, none⟩) 2 2), (56, iV 2), (57, iV 1)] ∧ L = [bw dT yu M7 p9, bT A29 n29 c29 p29, bT A44 n44 c44 p44, aq B5 42 [iV y21.Kind, iV y21.Shape, iV y21.Flags, iV y21.Age, .slice A29 n29 c29, .slice A44 n44 c44], aq B6 42 [iV 0, iV 0, iV 0, iV 0, .slice none 0 0, .slice none 0 0], aq B27 25 [.slice A29 n29 c29, .slice A44 n44 c44]]) ?_ ?_
  ·refine run ?_
   refine gE (jq rfl rfl Try.underlying101 ip (by decide) (by decide)) ?_
   refine run ?_
   refine gR (az 2 rfl aM rfl Try.underlying25) ?_
   refine run ?_
   refine bc (fun m s L => ∃ p46 p47 A46 n46 c46, cell_Moved_l45 N y21 p9 p29 m p46 p47 = some r ∧ s = [(3, pV B5 0), (6, pV B6 0), (7, .map (some M7)), (13, .slice A46 n46 c46), (55, .slice (some ⟨B27, 0, none⟩) 2 2), (56, iV 2), (57, iV 1), (61, .slice A46 n46 c46), (62, iV (y21.More.length : Int)), (63, iV p47)] ∧ L = [bw dT yu M7 p9, bT A46 n46 c46 p46, bT A29 n29 c29 p29, aq B5 42 [iV y21.Kind, iV y21.Shape, iV y21.Flags, iV y21.Age, .slice A29 n29 c29, .slice A46 n46 c46], aq B6 42 [iV 0, iV 0, iV 0, iV 0, .slice none 0 0, .slice none 0 0], aq B27 25 [.slice A29 n29 c29, .slice A46 n46 c46]]) N _ _ ⟨y21.More, 0, A23, n23, c23, h, rfl, rfl⟩ sA (ab [0, 2, 1, 3, 4, 5] 6 rfl rfl) ?_
   rintro (_ | m45) _ _ ⟨p46, p47, A46, n46, c46, h, rfl, rfl⟩
   ·exact aA h
   rw [cell_Moved_l45.eq_2] at h
   refine run ?_
   refine av ?_
   refine ar rfl (fun g48 => ?_) (fun g48 => ?_)
   ·replace h := ag g48 h
    refine run ?_
    refine aL (fun s L => ∃ p50 A50 n50 c50, gw N (cell_Moved_l45 N y21 p9 p29 m45) y21 p47 p9 p29 p50 = some r ∧ s = [(3, pV B5 0), (6, pV B6 0), (7, .map (some M7)), (13, .slice A50 n50 c50), (55, .slice (some ⟨B27, 0, none⟩) 2 2), (56, iV 2), (57, iV 1), (61, .slice A50 n50 c50), (62, iV (y21.More.length : Int)), (63, iV p47)] ∧ L = [bw dT yu M7 p9, bT A50 n50 c50 p50, bT A29 n29 c29 p29, aq B5 42 [iV y21.Kind, iV y21.Shape, iV y21.Flags, iV y21.Age, .slice A29 n29 c29, .slice A50 n50 c50], aq B6 42 [iV 0, iV 0, iV 0, iV 0, .slice none 0 0, .slice none 0 0], aq B27 25 [.slice A29 n29 c29, .slice A50 n50 c50]]) ?_ ?_
    ·refine run ?_
     obtain ⟨x51, hx51, h⟩ := aa h
     obtain ⟨lx51, ux51, hx51⟩ := ap hx51
     refine gR (aC 1 rfl aM rfl rfl Try.underlying25 aG lx51 ux51) ?_
     refine gR (aO (us := [iV x51.Kind, iV x51.N, .string x51.S]) 1 rfl aM rfl hx51 bp (fun _ _ _ h => by rw [show _ = _ from h]; rfl)) ?_
     refine gD (aS gz rfl) ?_
     rintro _ _ ⟨B52, rfl, rfl⟩
     refine run ?_
     refine gO (ay (us := [iV x51.Kind, iV x51.N, .string x51.S]) (cs' := [iV x51.Kind, iV x51.N, .string x51.S]) 0 rfl rfl rfl rfl aG rfl rfl rfl) ?_
     rintro _ _ rfl
     refine ck ([aq B52 38 [iV x51.Kind, iV x51.N, .string x51.S], bw dT yu M7 p9, bT A46 n46 c46 p46, bT A29 n29 c29 p29, aq B5 42 [iV y21.Kind, iV y21.Shape, iV y21.Flags, iV y21.Age, .slice A29 n29 c29, .slice A46 n46 c46], aq B6 42 [iV 0, iV 0, iV 0, iV 0, .slice none 0 0, .slice none 0 0], aq B27 25 [.slice A29 n29 c29, .slice A46 n46 c46]]) rfl ?_
     refine run ?_
     refine gR (qU (a := x51.N) (z := 0) 1 rfl po rfl rfl Try.underlying83 (eC Try.underlying3) yw) ?_
     refine run ?_
     obtain ⟨b53, hb53, h⟩ := aa h
     refine aw 3 79 b53 ?_ ?_
     ·clear h
      refine ax 76 rfl (fun g53 => ?_) (fun g53 => ?_)
      ·have h := ag g53 hb53
       refine aZ (aE (us := [iV x51.Kind, iV x51.N, .string x51.S]) 0 rfl rfl bp rfl) rfl (aJ g53 rfl) rfl ?_
       obtain ⟨y54, hy54, h⟩ := aa h
       refine bM (al (jX hy54) ws rfl (aj) iv) rfl (aJ g53 rfl) rfl ?_
       rintro _ _ ⟨_, ⟨rfl, rfl⟩, rfl⟩
       refine run ?_
       obtain rfl := ak h
       exact ad sA (ab [0, 1, 2, 3, 4, 5, 6] 7 rfl rfl)
      have h := ah g53 hb53
      refine run ?_
      obtain rfl := ak h
      exact ad sA (ab [0, 1, 2, 3, 4, 5, 6] 7 rfl rfl)
     refine run ?_
     refine ar rfl (fun g55 => ?_) (fun g55 => ?_)
     ·replace h := ag g55 h
      refine run ?_
      obtain ⟨x56, hx56, h⟩ := aa h
      obtain ⟨lx56, ux56, hx56⟩ := ap hx56
      refine gR (aC 2 rfl aM rfl rfl Try.underlying25 aG lx56 ux56) ?_
      refine gR (oa 2 rfl aM rfl (bU lx56 ux56) iP) ?_
      refine gO (su (us := [iV ((lk p9 x51.N).getD 0)]) (z := (⟨x56.Kind, (lk p9 x51.N).getD 0, x56.S⟩ : DValue)) 2 rfl rfl rfl rfl eH rfl (bU lx56 ux56) rfl (fun S w vs xk hk hr ho => by obtain rfl := Option.some.inj (hk.symm.trans hx56); rw [show _ = _ from hr]; rfl)) ?_
      rintro _ _ rfl
      refine run ?_
      exact ⟨_, _, ⟨List.set p46 p47.toNat (⟨x56.Kind, (lk p9 x51.N).getD 0, x56.S⟩ : DValue), A46, n46, c46, h, rfl, rfl⟩, sA, ab [1, 2, 3, 4, 5, 6] 7 rfl rfl⟩
     replace h := ah g55 h
     refine run ?_
     exact ⟨_, _, ⟨p46, A46, n46, c46, h, rfl, rfl⟩, sA, ab [1, 2, 3, 4, 5, 6] 7 rfl rfl⟩
    rintro _ _ ⟨p50, A50, n50, c50, h, rfl, rfl⟩
    refine cN ?_
    obtain ⟨q57, h⟩ := ao h
    refine gE (aN rfl rfl q57.1 q57.2) ?_
    refine run ?_
    exact ⟨m45, _, _, Nat.lt_succ_self _, ⟨p50, p47 + 1, A50, n50, c50, h, rfl, rfl⟩, sA, ab [0, 1, 2, 3, 4, 5] 6 rfl rfl⟩
   replace h := ah g48 h
   refine run ?_
   exact ⟨_, _, ⟨p46, A46, n46, c46, h, rfl, rfl⟩, sA, ab [0, 2, 1, 3, 4, 5] 6 rfl rfl⟩
  rintro _ _ ⟨p44, A44, n44, c44, h, rfl, rfl⟩
  refine cN ?_
  refine gE (aN rfl rfl (by decide) (by decide)) ?_
  refine run ?_
  refine nN ?_
  refine run ?_
  refine av ?_
  refine mu rfl ?_
  refine run ?_
  exact ⟨_, _, ⟨p29, p44, A29, n29, c29, A44, n44, c44, h, rfl, rfl⟩, sA, ab [1, 2, 3, 4] 6 rfl rfl⟩
 rintro _ _ ⟨p25, p26, A25, n25, c25, A26, n26, c26, h, rfl, rfl⟩
 refine run ?_
 refine gR (aE (us := [iV y21.Kind, iV y21.Shape, iV y21.Flags, iV y21.Age, .slice A25 n25 c25, .slice A26 n26 c26]) 2 rfl rfl ba rfl) ?_
 refine gO (ay (us := [iV y21.Kind, iV y21.Shape, iV y21.Flags, iV y21.Age, .slice A25 n25 c25, .slice A26 n26 c26]) (cs' := [iV y21.Kind, iV y21.Shape, iV y21.Flags, iV y21.Age, .slice A25 n25 c25, .slice A26 n26 c26]) 3 rfl rfl rfl rfl bq rfl rfl rfl) ?_
 rintro _ _ rfl
 refine run ?_
 obtain rfl := ak h
 exact eX (rs := [.cell 6 42]) (vs := [.agg #[iV y21.Kind, iV y21.Shape, iV y21.Flags, iV y21.Age, .slice A25 n25 c25, .slice A26 n26 c26]]) rfl (.cons (dD 3 rfl rfl ba) .nil) rfl (ab [0, 1] 4 rfl rfl) ⟨_, _, _, _, _, _, rfl, rfl⟩
theorem iy {r : DCell} : ∀ v post, ((fun (u : Value) (post : List Chunk) => ∃ A0 n0 c0 A1 n1 c1, u = .agg #[iV r.Kind, iV r.Shape, iV r.Flags, iV r.Age, .slice A0 n0 c0, .slice A1 n1 c1] ∧ post = [bT A0 n0 c0 r.Slots, bT A1 n1 c1 r.More])) v post → ∀ c ∈ post, bX c := by
 rintro _ _ ⟨_, _, _, _, _, _, rfl, rfl⟩; exact mem_cons bE (mem_cons bE (aj))
def fE (N : Nat) (a0 : (List DValue)) (a1 : (List Int)) (a2 : (List Int)) : Option (List DValue) :=
 (dN N (⟨0, 0, 0, 0, [], a0⟩ : DCell) a1 a2).bind fun y4 => some y4.More
theorem lW {N : Nat} {a0 : (List DValue)} {a1 : (List Int)} {a2 : (List Int)} {r : (List DValue)} (h : fE N a0 a1 a2 = some r) : Okc Try.prog 40 [.slice A1 n1 c1, .slice A2 n2 c2, .slice A3 n3 c3] ([aF A1 n1 c1 a0, ca A2 n2 c2 a1, ca A3 n3 c3 a2]) (fun u post => ∃ A0 n0 c0, u = .slice A0 n0 c0 ∧ post = [bT A0 n0 c0 r]) := by
 refine bz Try.func40 rfl rfl ?_
 simp only [aQ]
 refine run ?_
 refine gE (dJ rfl (z7 _ _ _)) ?_
 refine run ?_
 obtain ⟨y4, hy4, h⟩ := aa h
 refine gD (al (jZ hy4) wy rfl (mem_cons (zk) (mem_cons (am (i := 0) rfl rfl) (mem_cons (am (i := 1) rfl rfl) (mem_cons (am (i := 2) rfl rfl) aj)))) iy) ?_
 rintro _ _ ⟨_, ⟨A5, n5, c5, A6, n6, c6, rfl, rfl⟩, rfl⟩
 refine gE (va rfl (zu _ _ _ _ _ _ _ _ _ _)) ?_
 refine run ?_
 obtain rfl := ak h
 exact aB rfl rfl (ab [1] 5 rfl rfl) ⟨_, _, _, rfl, rfl⟩
theorem kq {r : (List DValue)} : ∀ v post, ((fun (u : Value) (post : List Chunk) => ∃ A0 n0 c0, u = .slice A0 n0 c0 ∧ post = [bT A0 n0 c0 r])) v post → ∀ c ∈ post, bX c := by
 rintro _ _ ⟨_, _, _, rfl, rfl⟩; exact mem_cons bE (aj)
end Go.Proofs.Ytmbaennilhdieaa