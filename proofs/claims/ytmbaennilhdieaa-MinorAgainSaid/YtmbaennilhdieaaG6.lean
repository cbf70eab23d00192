/- Merged texts: part 6. No conditions of their own. -/
import Derived.Test.YtmbaennilhdieaaG5
namespace Go.Proofs.Ytmbaennilhdieaa
variable {A1 A2 A3 A4 : Option Addr} {c1 c2 c3 c4 n1 n2 n3 n4 : Nat}
open Go.RowKit Asn
set_option maxRecDepth 20000
def gn (N : Nat) (a1 : (List DValue)) (y20 : ((List Int))) (y13 : (DMeeter)) (p68 : (List DValue)) (p69 : (List DCell)) (p70 : (List DCell)) : Option (DMemory × (List DValue) × (List DValue) × Int) :=
 (fE N a1 y13.met_ y20).bind fun y104 => (fE N p68 y13.met_ y20).bind fun y106 => some ((⟨p69, p70⟩ : DMemory), y104, y106, 0)
def eK (N : Nat) (kb71 : (List DValue) → Int → (List DCell) → (List DCell) → Option (DMemory × (List DValue) × (List DValue) × Int)) (y13 : (DMeeter)) (p73 : Int) (a1 : (List DValue)) (y20 : ((List Int))) (p26 : (List Int)) (p79 : (List DValue)) (p80 : (List DCell)) (p81 : (List DCell)) : Option (DMemory × (List DValue) × (List DValue) × Int) :=
 bD (aK (p73 + 1)) (kb71 p79 (p73 + 1) p80 p81)
def minor_Collect_l71 (N : Nat) (y13 : (DMeeter)) (a1 : (List DValue)) (y20 : ((List Int))) (p26 : (List Int)) : Nat → (List DValue) → Int → (List DCell) → (List DCell) → Option (DMemory × (List DValue) × (List DValue) × Int)
 | 0, _, _, _, _ => none
 | m71 + 1, p72, p73, p74, p75 => bif decide (p73 < (y13.met_.length : Int)) then ((aH y13.met_ p73).bind fun x82 => (be N y13 x82).bind fun y83 => (fF N y83 p26 p72).bind fun y87 => (dN N y87.1 y13.met_ y20).bind fun y91 => (aH y20 p73).bind fun x94 => (cY N x94).bind fun y95 => bif y95 then (bD (cu (p74.length + ([(⟨y91.Kind, y91.Shape, y91.Flags, 1, y91.Slots, y91.More⟩ : DCell)] : List DCell).length)) (eK N (minor_Collect_l71 N y13 a1 y20 p26 m71) y13 p73 a1 y20 p26 y87.2 (p74 ++ ([(⟨y91.Kind, y91.Shape, y91.Flags, 1, y91.Slots, y91.More⟩ : DCell)] : List DCell)) p75)) else (bD (cu (p75.length + ([(⟨y91.Kind, y91.Shape, y91.Flags, 1, y91.Slots, y91.More⟩ : DCell)] : List DCell).length)) (eK N (minor_Collect_l71 N y13 a1 y20 p26 m71) y13 p73 a1 y20 p26 y87.2 p74 (p75 ++ ([(⟨y91.Kind, y91.Shape, y91.Flags, 1, y91.Slots, y91.More⟩ : DCell)] : List DCell))))) else (gn N a1 y20 y13 p72 p74 p75)
def gp (N : Nat) (a1 : (List DValue)) (y20 : ((List Int))) (y13 : (DMeeter)) (p25 : (List DValue)) (p26 : (List Int)) (p27 : (List DCell)) : Option (DMemory × (List DValue) × (List DValue) × Int) :=
 minor_Collect_l71 N y13 a1 y20 p26 N p25 0 [] p27
def dI (N : Nat) (kb28 : (List DValue) → (List Int) → Int → (List DCell) → Option (DMemory × (List DValue) × (List DValue) × Int)) (a0 : DMemory) (p31 : Int) (a1 : (List DValue)) (a2 : (List Int)) (y20 : ((List Int))) (p30 : (List Int)) (p32 : (List DCell)) (y13 : (DMeeter)) (p42 : (List DValue)) (p43 : Int) (p44 : Int) (p45 : Int) (p46 : Int) (p47 : (List DValue)) (p48 : (List DValue)) : Option (DMemory × (List DValue) × (List DValue) × Int) :=
 (dN N (⟨p43, p44, p45, p46, p47, p48⟩ : DCell) y13.met_ y20).bind fun y57 => bD (cu (p32.length + ([y57] : List DCell).length)) (bD (aK (p31 + 1)) (kb28 p42 p30 (p31 + 1) (p32 ++ ([y57] : List DCell))))
def minor_Collect_l28 (N : Nat) (a0 : DMemory) (a1 : (List DValue)) (a2 : (List Int)) (y20 : ((List Int))) (y13 : (DMeeter)) : Nat → (List DValue) → (List Int) → Int → (List DCell) → Option (DMemory × (List DValue) × (List DValue) × Int)
 | 0, _, _, _, _ => none
 | m28 + 1, p29, p30, p31, p32 => bif decide (p31 < (a0.Old.length : Int)) then ((aH a0.Old p31).bind fun x36 => bD (aK (2 * p31)) (bD (aK ((2 * p31) + 2)) ((cq N a2 ((2 * p31) + 2)).bind fun y51 => bif y51 then ((fF N x36 p30 p29).bind fun y53 => dI N (minor_Collect_l28 N a0 a1 a2 y20 y13 m28) a0 p31 a1 a2 y20 p30 p32 y13 y53.2 y53.1.Kind y53.1.Shape y53.1.Flags y53.1.Age y53.1.Slots y53.1.More) else (dI N (minor_Collect_l28 N a0 a1 a2 y20 y13 m28) a0 p31 a1 a2 y20 p30 p32 y13 p29 x36.Kind x36.Shape x36.Flags x36.Age x36.Slots x36.More)))) else (gp N a1 y20 y13 p29 p30 p32)
def cT (N : Nat) (a0 : DMemory) (a1 : (List DValue)) (a2 : (List Int)) : Option (DMemory × (List DValue) × (List DValue) × Int) :=
 (ib N a0 a1 a2).bind fun y7 => bif !y7 then (some ((⟨[], []⟩ : DMemory), [], [], 1)) else ((fY N a0 a1 a2).bind fun y13 => (dt N y13).bind fun y20 => (cW N y13).bind fun y22 => minor_Collect_l28 N a0 a1 a2 y20 y13 N [] y22 0 [])
set_option maxHeartbeats 4000000 in
theorem ks {N : Nat} {a0 : DMemory} {a1 : (List DValue)} {a2 : (List Int)} {r : (DMemory × (List DValue) × (List DValue) × Int)} (h : cT N a0 a1 a2 = some r) : Okc Try.prog 9 [.agg #[.slice A1 n1 c1, .slice A2 n2 c2], .slice A3 n3 c3, .slice A4 n4 c4] ([aR A1 n1 c1 a0.Young, aR A2 n2 c2 a0.Old, aF A3 n3 c3 a1, ca A4 n4 c4 a2]) (fun u post => ∃ A0 n0 c0 A1 n1 c1 A2 n2 c2 A3 n3 c3, u = .tuple #[.agg #[.slice A0 n0 c0, .slice A1 n1 c1], .slice A2 n2 c2, .slice A3 n3 c3, iV r.2.2.2] ∧ post = [f4 A0 n0 c0 r.1.Young, f4 A1 n1 c1 r.1.Old, bT A2 n2 c2 r.2.1, bT A3 n3 c3 r.2.2.1]) := by
 refine bz Try.func9 rfl rfl ?_
 simp only [aQ]
 refine run ?_
 refine gD (aU rfl rfl) ?_
 rintro _ _ ⟨B5, rfl, rfl⟩
 refine gD (aS qz rfl) ?_
 rintro _ _ ⟨B6, rfl, rfl⟩
 refine run ?_
 refine av ?_
 refine run ?_
 refine gR (aE (us := [.slice A1 n1 c1, .slice A2 n2 c2]) 1 rfl rfl ex rfl) ?_
 refine run ?_
 obtain ⟨y7, hy7, h⟩ := aa h
 refine gD (al (tz hy7) CH rfl (mem_cons (am (i := 2) rfl rfl) (mem_cons (am (i := 3) rfl rfl) (mem_cons (am (i := 4) rfl rfl) (mem_cons (am (i := 5) rfl rfl) aj)))) rl) ?_
 rintro _ _ ⟨_, ⟨rfl, rfl⟩, rfl⟩
 refine run ?_
 refine ar rfl (fun g8 => ?_) (fun g8 => ?_)
 ·replace h := ag g8 h
  refine run ?_
  refine gE (dJ rfl (Bx)) ?_
  refine gO (ay (us := [.slice none 0 0, .slice none 0 0]) (cs' := [.slice none 0 0, .slice none 0 0]) 0 rfl rfl rfl rfl lF rfl rfl rfl) ?_
  rintro _ _ rfl
  refine run ?_
  obtain rfl := ak h
  exact eX (rs := [.cell 6 24, .tmp 7, .tmp 8, .tmp 9]) (vs := [.agg #[.slice none 0 0, .slice none 0 0], .slice none 0 0, .slice none 0 0, iV 1]) rfl (.cons (dD 0 rfl rfl ex) (.cons (i9 rfl) (.cons (i9 rfl) (.cons (i9 rfl) .nil)))) rfl ((cz dl 42 _).trans ((cz dl 42 _).trans ((cz bF 38 _).trans ((cz bF 38 _).trans (ab [3, 2, 1, 0] 10 rfl rfl))))) ⟨_, _, _, _, _, _, _, _, _, _, _, _, rfl, rfl⟩
 replace h := ah g8 h
 refine run ?_
 refine gR (aE (us := [.slice A1 n1 c1, .slice A2 n2 c2]) 1 rfl rfl ex rfl) ?_
 refine run ?_
 obtain ⟨y13, hy13, h⟩ := aa h
 refine gD (cg (tA hy13) CG rfl (bO [2, 3, 4, 5] [] [0, 1, 2, 3, 4, 5] 6 rfl)) ?_
 rintro _ _ ⟨_, ⟨B14, A15, n15, c15, A16, n16, c16, A17, n17, c17, A18, n18, c18, M19, rfl, rfl⟩, rfl⟩
 refine run ?_
 obtain ⟨y20, hy20, h⟩ := aa h
 refine gD (cg (kP hy20) CF rfl (bO [1, 2, 3] [0, 4, 5] [1, 2, 3, 6, 7, 8, 9, 10, 11] 12 rfl)) ?_
 rintro _ _ ⟨_, ⟨A21, n21, c21, rfl, rfl⟩, rfl⟩
 refine ck ([bN A21 n21 c21 y20, aq B14 61 [.slice A15 n15 c15, .slice A16 n16 c16, .slice A17 n17 c17, .slice A18 n18 c18, .map (some M19), iV y13.next_], bN A18 n18 c18 y13.met_, bw dT eM M19 y13.seen_, aR A15 n15 c15 y13.m_.Young, aR A16 n16 c16 y13.m_.Old, ca A17 n17 c17 y13.kept_, aq B6 24 [.slice none 0 0, .slice none 0 0], aq B5 24 [.slice A1 n1 c1, .slice A2 n2 c2], aR A1 n1 c1 a0.Young, aR A2 n2 c2 a0.Old, aF A3 n3 c3 a1, ca A4 n4 c4 a2]) rfl ?_
 refine run ?_
 obtain ⟨y22, hy22, h⟩ := aa h
 refine gD (al (ia hy22) zS rfl (mem_cons (kw (i := 1) rfl) (mem_cons (am (i := 4) rfl rfl) (mem_cons (am (i := 5) rfl rfl) (mem_cons (am (i := 6) rfl rfl) (mem_cons (cC (i := 2) rfl) (mem_cons (uN (i := 3) rfl) aj)))))) gl) ?_
 rintro _ _ ⟨_, ⟨A23, n23, c23, rfl, rfl⟩, rfl⟩
 refine run ?_
 refine aL (fun s L => ∃ p25 p26 p27 A25 n25 c25 A26 n26 c26 A27 n27 c27, gp N a1 y20 y13 p25 p26 p27 = some r ∧ s = [(1, .slice A3 n3 c3), (6, pV B6 0), (7, .slice none 0 0), (8, .slice A25 n25 c25), (9, iV 0), (10, pV B14 0), (11, .slice A21 n21 c21), (12, .slice A26 n26 c26)] ∧ L = [aF A3 n3 c3 a1, bT A25 n25 c25 p25, bN A21 n21 c21 y20, ca A26 n26 c26 p26, f4 A27 n27 c27 p27, aq B6 24 [.slice none 0 0, .slice A27 n27 c27], aR A15 n15 c15 y13.m_.Young, aR A16 n16 c16 y13.m_.Old, ca A17 n17 c17 y13.kept_, bN A18 n18 c18 y13.met_, bw dT eM M19 y13.seen_, aq B14 61 [.slice A15 n15 c15, .slice A16 n16 c16, .slice A17 n17 c17, .slice A18 n18 c18, .map (some M19), iV y13.next_]]) ?_ ?_
 ·refine run ?_
  refine gR (bd 9 rfl rfl fD rfl) ?_
  refine gR (az 11 rfl ai rfl Try.underlying22) ?_
  refine run ?_
  refine bc (fun m s L => ∃ p29 p30 p31 p32 A29 n29 c29 A30 n30 c30 A32 n32 c32, minor_Collect_l28 N a0 a1 a2 y20 y13 m p29 p30 p31 p32 = some r ∧ s = [(1, .slice A3 n3 c3), (2, .slice A4 n4 c4), (6, pV B6 0), (7, .slice none 0 0), (8, .slice A29 n29 c29), (9, iV 0), (10, pV B14 0), (11, .slice A21 n21 c21), (12, .slice A30 n30 c30), (33, .slice A2 n2 c2), (34, iV (a0.Old.length : Int)), (35, iV p31)] ∧ L = [aF A3 n3 c3 a1, ca A4 n4 c4 a2, bT A29 n29 c29 p29, bN A21 n21 c21 y20, ca A30 n30 c30 p30, aR A2 n2 c2 a0.Old, f4 A32 n32 c32 p32, aq B6 24 [.slice none 0 0, .slice A32 n32 c32], aR A15 n15 c15 y13.m_.Young, aR A16 n16 c16 y13.m_.Old, ca A17 n17 c17 y13.kept_, bN A18 n18 c18 y13.met_, bw dT eM M19 y13.seen_, aq B14 61 [.slice A15 n15 c15, .slice A16 n16 c16, .slice A17 n17 c17, .slice A18 n18 c18, .map (some M19), iV y13.next_]]) N _ _ ⟨[], y22, 0, [], none, 0, 0, A23, n23, c23, none, 0, 0, h, rfl, rfl⟩ sA ((cz bF 38 _).trans ((cL 1 rfl).trans ((cz dl 42 _).trans (ab [14, 15, 1, 3, 2, 13, 0, 10, 7, 8, 9, 5, 6, 4] 16 rfl rfl)))) ?_
  rintro (_ | m28) _ _ ⟨p29, p30, p31, p32, A29, n29, c29, A30, n30, c30, A32, n32, c32, h, rfl, rfl⟩
  ·exact aA h
  rw [minor_Collect_l28.eq_2] at h
  refine run ?_
  refine av ?_
  refine ar rfl (fun g35 => ?_) (fun g35 => ?_)
  ·replace h := ag g35 h
   refine run ?_
   refine av ?_
   refine run ?_
   obtain ⟨x36, hx36, h⟩ := aa h
   obtain ⟨lx36, ux36, hx36⟩ := ap hx36
   refine gR (aC 5 rfl ai rfl rfl Try.underlying22 bq lx36 ux36) ?_
   refine rM 5 rfl hx36 (cE x36) ?_
   rintro _ _ ⟨A37, n37, c37, A38, n38, c38, rfl, rfl⟩
   refine gR (gc (us := [iV x36.Kind, iV x36.Shape, iV x36.Flags, iV x36.Age, .slice A37 n37 c37, .slice A38 n38 c38]) 0 rfl rfl ba rfl) ?_
   refine gD (aS ed rfl) ?_
   rintro _ _ ⟨B40, rfl, rfl⟩
   refine run ?_
   refine gO (ay (us := [iV x36.Kind, iV x36.Shape, iV x36.Flags, iV x36.Age, .slice A37 n37 c37, .slice A38 n38 c38]) (cs' := [iV x36.Kind, iV x36.Shape, iV x36.Flags, iV x36.Age, .slice A37 n37 c37, .slice A38 n38 c38]) 0 rfl rfl rfl rfl bq rfl rfl rfl) ?_
   rintro _ _ rfl
   refine run ?_
   refine aL (fun s L => ∃ p42 p43 p44 p45 p46 p47 p48 A42 n42 c42 A47 n47 c47 A48 n48 c48, dI N (minor_Collect_l28 N a0 a1 a2 y20 y13 m28) a0 p31 a1 a2 y20 p30 p32 y13 p42 p43 p44 p45 p46 p47 p48 = some r ∧ s = [(1, .slice A3 n3 c3), (2, .slice A4 n4 c4), (6, pV B6 0), (7, .slice none 0 0), (8, .slice A42 n42 c42), (9, iV 0), (10, pV B14 0), (11, .slice A21 n21 c21), (12, .slice A30 n30 c30), (14, pV B40 0), (33, .slice A2 n2 c2), (34, iV (a0.Old.length : Int)), (35, iV p31)] ∧ L = [aF A3 n3 c3 a1, ca A4 n4 c4 a2, bT A42 n42 c42 p42, bN A21 n21 c21 y20, ca A30 n30 c30 p30, aR A2 n2 c2 a0.Old, f4 A32 n32 c32 p32, aq B6 24 [.slice none 0 0, .slice A32 n32 c32], aR A15 n15 c15 y13.m_.Young, aR A16 n16 c16 y13.m_.Old, ca A17 n17 c17 y13.kept_, bN A18 n18 c18 y13.met_, bw dT eM M19 y13.seen_, aq B14 61 [.slice A15 n15 c15, .slice A16 n16 c16, .slice A17 n17 c17, .slice A18 n18 c18, .map (some M19), iV y13.next_], aF A47 n47 c47 p47, aF A48 n48 c48 p48, aq B40 42 [iV p43, iV p44, iV p45, iV p46, .slice A47 n47 c47, .slice A48 n48 c48]]) ?_ ?_
   ·refine run ?_
    obtain ⟨q49, h⟩ := ao h
    refine gE (pz rfl rfl q49.1 q49.2) ?_
    obtain ⟨q50, h⟩ := ao h
    refine gE (aN rfl rfl q50.1 q50.2) ?_
    obtain ⟨y51, hy51, h⟩ := aa h
    refine gD (al (ef hy51) tU rfl (mem_cons (am (i := 5) rfl rfl) aj) dB) ?_
    rintro _ _ ⟨_, ⟨rfl, rfl⟩, rfl⟩
    refine run ?_
    refine ar rfl (fun g52 => ?_) (fun g52 => ?_)
    ·replace h := ag g52 h
     refine cN ?_
     refine gR (aE (us := [iV x36.Kind, iV x36.Shape, iV x36.Flags, iV x36.Age, .slice A37 n37 c37, .slice A38 n38 c38]) 0 rfl rfl ba rfl) ?_
     refine run ?_
     obtain ⟨y53, hy53, h⟩ := aa h
     refine gD (cg (lY hy53) zR rfl (bO [2, 3, 8] [6] [0, 1, 2, 3, 4, 5, 7, 8, 9, 10, 11, 12, 13, 14, 15, 16, 17] 18 rfl)) ?_
     rintro _ _ ⟨_, ⟨A54, n54, c54, A55, n55, c55, A56, n56, c56, rfl, rfl⟩, rfl⟩
     refine run ?_
     refine gO (ay (us := [iV y53.1.Kind, iV y53.1.Shape, iV y53.1.Flags, iV y53.1.Age, .slice A54 n54 c54, .slice A55 n55 c55]) (cs' := [iV y53.1.Kind, iV y53.1.Shape, iV y53.1.Flags, iV y53.1.Age, .slice A54 n54 c54, .slice A55 n55 c55]) 3 rfl rfl rfl rfl bq rfl rfl rfl) ?_
     rintro _ _ rfl
     refine ck ([aF A54 n54 c54 y53.1.Slots, aF A55 n55 c55 y53.1.More, bT A56 n56 c56 y53.2, aq B40 42 [iV y53.1.Kind, iV y53.1.Shape, iV y53.1.Flags, iV y53.1.Age, .slice A54 n54 c54, .slice A55 n55 c55], ki (bK (.slice A2 n2 c2) p31.toNat 6 0) [iV x36.Kind, iV x36.Shape, iV x36.Flags, iV x36.Age, .slice A37 n37 c37, .slice A38 n38 c38], aF A37 n37 c37 x36.Slots, aF A38 n38 c38 x36.More, aF A3 n3 c3 a1, ca A4 n4 c4 a2, bN A21 n21 c21 y20, ca A30 n30 c30 p30, aR A2 n2 c2 a0.Old, f4 A32 n32 c32 p32, aq B6 24 [.slice none 0 0, .slice A32 n32 c32], aR A15 n15 c15 y13.m_.Young, aR A16 n16 c16 y13.m_.Old, ca A17 n17 c17 y13.kept_, bN A18 n18 c18 y13.met_, bw dT eM M19 y13.seen_, aq B14 61 [.slice A15 n15 c15, .slice A16 n16 c16, .slice A17 n17 c17, .slice A18 n18 c18, .map (some M19), iV y13.next_]]) rfl ?_
     refine run ?_
     exact ⟨_, _, ⟨y53.2, y53.1.Kind, y53.1.Shape, y53.1.Flags, y53.1.Age, y53.1.Slots, y53.1.More, A56, n56, c56, A54, n54, c54, A55, n55, c55, h, rfl, rfl⟩, sA, ab [7, 8, 2, 9, 10, 11, 12, 13, 14, 15, 16, 17, 18, 19, 0, 1, 3] 20 rfl rfl⟩
    replace h := ah g52 h
    refine run ?_
    exact ⟨_, _, ⟨p29, x36.Kind, x36.Shape, x36.Flags, x36.Age, x36.Slots, x36.More, A29, n29, c29, A37, n37, c37, A38, n38, c38, h, rfl, rfl⟩, sA, ab [4, 5, 6, 7, 8, 9, 10, 11, 12, 13, 14, 15, 16, 17, 2, 3, 0] 18 rfl rfl⟩
   rintro _ _ ⟨p42, p43, p44, p45, p46, p47, p48, A42, n42, c42, A47, n47, c47, A48, n48, c48, h, rfl, rfl⟩
   obtain ⟨y57, hy57, h⟩ := aa h
   refine fb (t := [(1, .slice A3 n3 c3), (2, .slice A4 n4 c4), (6, pV B6 0), (7, .slice none 0 0), (8, .slice A42 n42 c42), (9, iV 0), (10, pV B14 0), (11, .slice A21 n21 c21), (12, .slice A30 n30 c30), (14, pV B40 0), (33, .slice A2 n2 c2), (34, iV (a0.Old.length : Int)), (35, iV p31)]) ?_ gX (ac _)
   refine fo (by kernel_rfl) 10 [] [1, 9] [52, 53, 54, 55, 56, 57, 58, 59, 60, 61] [[], [0], [], [], [3], [4], [5], [], [2, 6, 7], [8]] [aV (pV B6 1),
aV (.slice A32 n32 c32),
aV (.agg #[iV p43, iV p44, iV p45, iV p46, .slice A47 n47 c47, .slice A48 n48 c48]),
aV (pV B14 0),
aV (pV B14 0),
aV (pV B14 3),
aV (.slice A18 n18 c18),
aV (.slice A21 n21 c21),
aX6 (fun (A60 : Option Addr) (n60 c60 : Nat) (A61 : Option Addr) (n61 c61 : Nat) => .agg #[iV y57.Kind, iV y57.Shape, iV y57.Flags, iV y57.Age, .slice A60 n60 c60, .slice A61 n61 c61]) (fun A60 n60 c60 A61 n61 c61 => [aF A60 n60 c60 y57.Slots, aF A61 n61 c61 y57.More]),
aX3 (fun (A63 : Option Addr) (n63 c63 : Nat) => .slice A63 n63 c63) (fun A63 n63 c63 => [f4 A63 n63 c63 ([y57] : List DCell)])] [] (ac _) (gH) (by kernel_rfl) rfl rfl ?_ ?_ ?_
   ·exact gG
   ·refine ae rfl ?_ ?_
    ·intro A60 n60 c60 A61 n61 c61
     refine jy (bB (R := dl) (vss := [[iV y57.Kind, iV y57.Shape, iV y57.Flags, iV y57.Age, .slice A60 n60 c60, .slice A61 n61 c61]]) (xs := [y57]) rfl (oX _ _ _ _ _ _ _ _ _ _) rfl rfl (fun _ _ hr => .cons (⟨_, _, _, _, _, _, rfl, hr 0 _ rfl rfl, hr 1 _ rfl rfl⟩) All2.nil)) rfl ?_
     rintro _ _ ⟨A62, n62, c62, rfl, rfl⟩
     exact ig A62 n62 c62 (ac _)
    refine ae rfl ?_ ?_
    ·refine jy (al (jZ hy57) wy rfl (mem_cons (am (i := 14) rfl rfl) (mem_cons (am (i := 15) rfl rfl) (mem_cons (cC (i := 11) rfl) (mem_cons (cC (i := 3) rfl) aj)))) iy) rfl ?_
     rintro _ _ ⟨_, ⟨A58, n58, c58, A59, n59, c59, rfl, rfl⟩, rfl⟩
     exact zA A58 n58 c58 A59 n59 c59 ((cL 0 rfl).trans ((cL 1 rfl).trans (ac _)))
    refine ae rfl ?_ ?_
    ·exact bj (aI rfl) rfl (aD rfl (ac _))
    refine ae rfl ?_ ?_
    ·exact bW (bd 13 rfl rfl iD rfl) rfl (aD rfl (ac _))
    refine ae rfl ?_ ?_
    ·exact bj (cK rfl jJ) rfl (aD rfl (ac _))
    refine ae rfl ?_ ?_
    ·exact bj (cx rfl) rfl (aD rfl (ac _))
    refine ae rfl ?_ ?_
    ·exact bj (aI rfl) rfl (aD rfl (ac _))
    refine ae rfl ?_ ?_
    ·exact bW (aE (us := [iV p43, iV p44, iV p45, iV p46, .slice A47 n47 c47, .slice A48 n48 c48]) 16 rfl rfl ba rfl) rfl (aD rfl (ac _))
    refine ae rfl ?_ ?_
    ·exact bW (bd 7 rfl rfl fD rfl) rfl (aD rfl (ac _))
    refine ae rfl ?_ ?_
    ·exact bj (cK rfl jK) rfl (aD rfl (ac _))
    exact db
   intro A63 n63 c63
   refine jN (t := [(53, .slice A32 n32 c32), (61, .slice A63 n63 c63), (1, .slice A3 n3 c3), (2, .slice A4 n4 c4), (6, pV B6 0), (7, .slice none 0 0), (8, .slice A42 n42 c42), (9, iV 0), (10, pV B14 0), (11, .slice A21 n21 c21), (12, .slice A30 n30 c30), (14, pV B40 0), (33, .slice A2 n2 c2), (34, iV (a0.Old.length : Int)), (35, iV p31)]) (L' := [f4 A63 n63 c63 ([y57] : List DCell), aF A3 n3 c3 a1, ca A4 n4 c4 a2, bT A42 n42 c42 p42, bN A21 n21 c21 y20, ca A30 n30 c30 p30, aR A2 n2 c2 a0.Old, f4 A32 n32 c32 p32, aq B6 24 [.slice none 0 0, .slice A32 n32 c32], aR A15 n15 c15 y13.m_.Young, aR A16 n16 c16 y13.m_.Old, ca A17 n17 c17 y13.kept_, bN A18 n18 c18 y13.met_, bw dT eM M19 y13.seen_, aq B14 61 [.slice A15 n15 c15, .slice A16 n16 c16, .slice A17 n17 c17, .slice A18 n18 c18, .map (some M19), iV y13.next_], aF A47 n47 c47 p47, aF A48 n48 c48 p48, aq B40 42 [iV p43, iV p44, iV p45, iV p46, .slice A47 n47 c47, .slice A48 n48 c48]]) ?_ gX (ac _)
   obtain ⟨q64, h⟩ := ao h
   refine sU 10 rfl (by kernel_rfl) (bm 7 0 rfl rfl aM rfl rfl Try.underlying22 vy rfl rfl q64) rfl rfl rfl ?_
   rintro _ _ ⟨A65, n65, c65, rfl, rfl⟩
   refine oZ 11 rfl (by kernel_rfl) (cK rfl jK) rfl rfl rfl ?_
   refine mq 12 rfl (by kernel_rfl) (ay (us := [.slice A65 n65 c65]) (cs' := [.slice none 0 0, .slice A65 n65 c65]) 8 rfl rfl rfl rfl nw rfl rfl rfl) rfl rfl ?_
   rintro _ _ rfl
   refine gM (by kernel_rfl) ?_
   refine run ?_
   obtain ⟨q66, h⟩ := ao h
   refine gE (aN rfl rfl q66.1 q66.2) ?_
   refine run ?_
   exact ⟨m28, _, _, Nat.lt_succ_self _, ⟨p42, p30, p31 + 1, p32 ++ ([y57] : List DCell), A42, n42, c42, A30, n30, c30, A65, n65, c65, h, rfl, rfl⟩, sA, ab [1, 2, 3, 4, 5, 6, 7, 8, 9, 10, 11, 12, 13, 14] 18 rfl rfl⟩
  replace h := ah g35 h
  refine run ?_
  exact ⟨_, _, ⟨p29, p30, p32, A29, n29, c29, A30, n30, c30, A32, n32, c32, h, rfl, rfl⟩, sA, ab [0, 2, 3, 4, 6, 7, 8, 9, 10, 11, 12, 13] 14 rfl rfl⟩
 rintro _ _ ⟨p25, p26, p27, A25, n25, c25, A26, n26, c26, A27, n27, c27, h, rfl, rfl⟩
 refine aL (fun s L => ∃ p68 p69 p70 A68 n68 c68 A69 n69 c69 A70 n70 c70, gn N a1 y20 y13 p68 p69 p70 = some r ∧ s = [(1, .slice A3 n3 c3), (6, pV B6 0), (7, .slice none 0 0), (8, .slice A68 n68 c68), (9, iV 0), (10, pV B14 0), (11, .slice A21 n21 c21)] ∧ L = [aF A3 n3 c3 a1, bT A68 n68 c68 p68, bN A21 n21 c21 y20, f4 A69 n69 c69 p69, f4 A70 n70 c70 p70, aq B6 24 [.slice A69 n69 c69, .slice A70 n70 c70], aR A15 n15 c15 y13.m_.Young, aR A16 n16 c16 y13.m_.Old, ca A17 n17 c17 y13.kept_, bN A18 n18 c18 y13.met_, bw dT eM M19 y13.seen_, aq B14 61 [.slice A15 n15 c15, .slice A16 n16 c16, .slice A17 n17 c17, .slice A18 n18 c18, .map (some M19), iV y13.next_]]) ?_ ?_
 ·refine run ?_
  refine gR (bd 11 rfl rfl iD rfl) ?_
  refine gR (az 9 rfl aM rfl Try.underlying31) ?_
  refine run ?_
  refine bc (fun m s L => ∃ p72 p73 p74 p75 A72 n72 c72 A74 n74 c74 A75 n75 c75, minor_Collect_l71 N y13 a1 y20 p26 m p72 p73 p74 p75 = some r ∧ s = [(1, .slice A3 n3 c3), (6, pV B6 0), (7, .slice none 0 0), (8, .slice A72 n72 c72), (9, iV 0), (10, pV B14 0), (11, .slice A21 n21 c21), (12, .slice A26 n26 c26), (68, .slice A18 n18 c18), (69, iV (y13.met_.length : Int)), (70, iV p73)] ∧ L = [aF A3 n3 c3 a1, bT A72 n72 c72 p72, bN A21 n21 c21 y20, ca A26 n26 c26 p26, bN A18 n18 c18 y13.met_, f4 A74 n74 c74 p74, f4 A75 n75 c75 p75, aq B6 24 [.slice A74 n74 c74, .slice A75 n75 c75], aR A15 n15 c15 y13.m_.Young, aR A16 n16 c16 y13.m_.Old, ca A17 n17 c17 y13.kept_, bw dT eM M19 y13.seen_, aq B14 61 [.slice A15 n15 c15, .slice A16 n16 c16, .slice A17 n17 c17, .slice A18 n18 c18, .map (some M19), iV y13.next_]]) N _ _ ⟨p25, 0, [], p27, A25, n25, c25, none, 0, 0, A27, n27, c27, h, rfl, rfl⟩ sA ((cz dl 42 _).trans (ab [1, 2, 3, 4, 10, 0, 5, 6, 7, 8, 9, 11, 12] 13 rfl rfl)) ?_
  rintro (_ | m71) _ _ ⟨p72, p73, p74, p75, A72, n72, c72, A74, n74, c74, A75, n75, c75, h, rfl, rfl⟩
  ·exact aA h
  rw [minor_Collect_l71.eq_2] at h
  refine run ?_
  refine av ?_
  refine ar rfl (fun g77 => ?_) (fun g77 => ?_)
  ·replace h := ag g77 h
   refine run ?_
   refine aL (fun s L => ∃ p79 p80 p81 A79 n79 c79 A80 n80 c80 A81 n81 c81, eK N (minor_Collect_l71 N y13 a1 y20 p26 m71) y13 p73 a1 y20 p26 p79 p80 p81 = some r ∧ s = [(1, .slice A3 n3 c3), (6, pV B6 0), (7, .slice none 0 0), (8, .slice A79 n79 c79), (9, iV 0), (10, pV B14 0), (11, .slice A21 n21 c21), (12, .slice A26 n26 c26), (68, .slice A18 n18 c18), (69, iV (y13.met_.length : Int)), (70, iV p73)] ∧ L = [aF A3 n3 c3 a1, bT A79 n79 c79 p79, bN A21 n21 c21 y20, ca A26 n26 c26 p26, bN A18 n18 c18 y13.met_, f4 A80 n80 c80 p80, f4 A81 n81 c81 p81, aq B6 24 [.slice A80 n80 c80, .slice A81 n81 c81], aR A15 n15 c15 y13.m_.Young, aR A16 n16 c16 y13.m_.Old, ca A17 n17 c17 y13.kept_, bw dT eM M19 y13.seen_, aq B14 61 [.slice A15 n15 c15, .slice A16 n16 c16, .slice A17 n17 c17, .slice A18 n18 c18, .map (some M19), iV y13.next_]]) ?_ ?_
   ·refine run ?_
    obtain ⟨x82, hx82, h⟩ := aa h
    obtain ⟨lx82, ux82, hx82⟩ := ap hx82
    refine gR (aC 4 rfl aM rfl rfl Try.underlying31 eH lx82 ux82) ?_
    refine gR (aX (u := iV x82) 4 rfl aM rfl hx82 dv (fun _ _ _ h => by rw [show _ = _ from h]; rfl)) ?_
    refine run ?_
    obtain ⟨y83, hy83, h⟩ := aa h
    refine gD (cg (cJ hy83) rI rfl (bO [8, 9, 10] [12, 4, 11] [0, 1, 2, 3, 5, 6, 7, 8, 9, 10] 13 rfl)) ?_
    rintro _ _ ⟨_, ⟨A84, n84, c84, A85, n85, c85, rfl, rfl⟩, rfl⟩
    refine ck ([aF A84 n84 c84 y83.Slots, aF A85 n85 c85 y83.More, aq B14 61 [.slice A15 n15 c15, .slice A16 n16 c16, .slice A17 n17 c17, .slice A18 n18 c18, .map (some M19), iV y13.next_], bN A18 n18 c18 y13.met_, bw dT eM M19 y13.seen_, aF A3 n3 c3 a1, bT A72 n72 c72 p72, bN A21 n21 c21 y20, ca A26 n26 c26 p26, f4 A74 n74 c74 p74, f4 A75 n75 c75 p75, aq B6 24 [.slice A74 n74 c74, .slice A75 n75 c75], aR A15 n15 c15 y13.m_.Young, aR A16 n16 c16 y13.m_.Old, ca A17 n17 c17 y13.kept_]) rfl ?_
    refine gD (aS ed rfl) ?_
    rintro _ _ ⟨B86, rfl, rfl⟩
    refine gO (ay (us := [iV y83.Kind, iV y83.Shape, iV y83.Flags, iV y83.Age, .slice A84 n84 c84, .slice A85 n85 c85]) (cs' := [iV y83.Kind, iV y83.Shape, iV y83.Flags, iV y83.Age, .slice A84 n84 c84, .slice A85 n85 c85]) 0 rfl rfl rfl rfl bq rfl rfl rfl) ?_
    rintro _ _ rfl
    refine run ?_
    refine gR (aE (us := [iV y83.Kind, iV y83.Shape, iV y83.Flags, iV y83.Age, .slice A84 n84 c84, .slice A85 n85 c85]) 0 rfl rfl ba rfl) ?_
    refine run ?_
    obtain ⟨y87, hy87, h⟩ := aa h
    refine gD (cg (lY hy87) zR rfl (bO [1, 2, 9] [7] [0, 1, 2, 3, 4, 5, 6, 8, 9, 10, 11, 12, 13, 14, 15] 16 rfl)) ?_
    rintro _ _ ⟨_, ⟨A88, n88, c88, A89, n89, c89, A90, n90, c90, rfl, rfl⟩, rfl⟩
    refine run ?_
    refine gO (ay (us := [iV y87.1.Kind, iV y87.1.Shape, iV y87.1.Flags, iV y87.1.Age, .slice A88 n88 c88, .slice A89 n89 c89]) (cs' := [iV y87.1.Kind, iV y87.1.Shape, iV y87.1.Flags, iV y87.1.Age, .slice A88 n88 c88, .slice A89 n89 c89]) 3 rfl rfl rfl rfl bq rfl rfl rfl) ?_
    rintro _ _ rfl
    refine ck ([aF A88 n88 c88 y87.1.Slots, aF A89 n89 c89 y87.1.More, bT A90 n90 c90 y87.2, aq B86 42 [iV y87.1.Kind, iV y87.1.Shape, iV y87.1.Flags, iV y87.1.Age, .slice A88 n88 c88, .slice A89 n89 c89], aF A84 n84 c84 y83.Slots, aF A85 n85 c85 y83.More, aq B14 61 [.slice A15 n15 c15, .slice A16 n16 c16, .slice A17 n17 c17, .slice A18 n18 c18, .map (some M19), iV y13.next_], bN A18 n18 c18 y13.met_, bw dT eM M19 y13.seen_, aF A3 n3 c3 a1, bN A21 n21 c21 y20, ca A26 n26 c26 p26, f4 A74 n74 c74 p74, f4 A75 n75 c75 p75, aq B6 24 [.slice A74 n74 c74, .slice A75 n75 c75], aR A15 n15 c15 y13.m_.Young, aR A16 n16 c16 y13.m_.Old, ca A17 n17 c17 y13.kept_]) rfl ?_
    refine run ?_
    refine av ?_
    refine fb (t := [(1, .slice A3 n3 c3), (6, pV B6 0), (7, .slice none 0 0), (8, .slice A90 n90 c90), (9, iV 0), (10, pV B14 0), (11, .slice A21 n21 c21), (12, .slice A26 n26 c26), (15, iV p73), (17, pV B86 0), (68, .slice A18 n18 c18), (69, iV (y13.met_.length : Int)), (70, iV p73)]) ?_ gX (ac _)
    refine fo (by kernel_rfl) 6 [] [0, 4, 5] [85, 86, 87, 88, 89, 90] [[], [], [1], [2], [3], []] [aV (.agg #[iV y87.1.Kind, iV y87.1.Shape, iV y87.1.Flags, iV y87.1.Age, .slice A88 n88 c88, .slice A89 n89 c89]),
aV (pV B14 0),
aV (pV B14 0),
aV (pV B14 3),
aV (.slice A18 n18 c18),
aV (.slice A21 n21 c21)] [] (ac _) (gH) (by kernel_rfl) rfl rfl ?_ ?_ ?_
    ·exact gG
    ·refine ae rfl ?_ ?_
     ·exact bj (aI rfl) rfl (aD rfl (ac _))
     refine ae rfl ?_ ?_
     ·exact bW (bd 6 rfl rfl iD rfl) rfl (aD rfl (ac _))
     refine ae rfl ?_ ?_
     ·exact bj (cK rfl jJ) rfl (aD rfl (ac _))
     refine ae rfl ?_ ?_
     ·exact bj (cx rfl) rfl (aD rfl (ac _))
     refine ae rfl ?_ ?_
     ·exact bj (aI rfl) rfl (aD rfl (ac _))
     refine ae rfl ?_ ?_
     ·exact bW (aE (us := [iV y87.1.Kind, iV y87.1.Shape, iV y87.1.Flags, iV y87.1.Age, .slice A88 n88 c88, .slice A89 n89 c89]) 3 rfl rfl ba rfl) rfl (aD rfl (ac _))
     exact db
    refine jN (t := [(85, .agg #[iV y87.1.Kind, iV y87.1.Shape, iV y87.1.Flags, iV y87.1.Age, .slice A88 n88 c88, .slice A89 n89 c89]), (89, .slice A18 n18 c18), (90, .slice A21 n21 c21), (1, .slice A3 n3 c3), (6, pV B6 0), (7, .slice none 0 0), (8, .slice A90 n90 c90), (9, iV 0), (10, pV B14 0), (11, .slice A21 n21 c21), (12, .slice A26 n26 c26), (15, iV p73), (17, pV B86 0), (68, .slice A18 n18 c18), (69, iV (y13.met_.length : Int)), (70, iV p73)]) (L' := [aF A88 n88 c88 y87.1.Slots, aF A89 n89 c89 y87.1.More, bT A90 n90 c90 y87.2, aq B86 42 [iV y87.1.Kind, iV y87.1.Shape, iV y87.1.Flags, iV y87.1.Age, .slice A88 n88 c88, .slice A89 n89 c89], aF A84 n84 c84 y83.Slots, aF A85 n85 c85 y83.More, aq B14 61 [.slice A15 n15 c15, .slice A16 n16 c16, .slice A17 n17 c17, .slice A18 n18 c18, .map (some M19), iV y13.next_], bN A18 n18 c18 y13.met_, bw dT eM M19 y13.seen_, aF A3 n3 c3 a1, bN A21 n21 c21 y20, ca A26 n26 c26 p26, f4 A74 n74 c74 p74, f4 A75 n75 c75 p75, aq B6 24 [.slice A74 n74 c74, .slice A75 n75 c75], aR A15 n15 c15 y13.m_.Young, aR A16 n16 c16 y13.m_.Old, ca A17 n17 c17 y13.kept_]) ?_ gX (ac _)
    obtain ⟨y91, hy91, h⟩ := aa h
    refine sU 6 rfl (by kernel_rfl) (al (jZ hy91) wy rfl (mem_cons (am (i := 0) rfl rfl) (mem_cons (am (i := 1) rfl rfl) (mem_cons (cC (i := 7) rfl) (mem_cons (cC (i := 10) rfl) aj)))) iy) rfl rfl rfl ?_
    rintro _ _ ⟨_, ⟨A92, n92, c92, A93, n93, c93, rfl, rfl⟩, rfl⟩
    refine mq 7 rfl (by kernel_rfl) (ay (us := [iV y91.Kind, iV y91.Shape, iV y91.Flags, iV y91.Age, .slice A92 n92 c92, .slice A93 n93 c93]) (cs' := [iV y91.Kind, iV y91.Shape, iV y91.Flags, iV y91.Age, .slice A92 n92 c92, .slice A93 n93 c93]) 5 rfl rfl rfl rfl bq rfl rfl rfl) rfl rfl ?_
    rintro _ _ rfl
    refine gM (by kernel_rfl) ?_
    refine run ?_
    refine gO (ay (us := [iV 1]) (cs' := [iV y91.Kind, iV y91.Shape, iV y91.Flags, iV 1, .slice A92 n92 c92, .slice A93 n93 c93]) 5 rfl rfl rfl rfl eH rfl rfl rfl) ?_
    rintro _ _ rfl
    refine run ?_
    obtain ⟨x94, hx94, h⟩ := aa h
    obtain ⟨lx94, ux94, hx94⟩ := ap hx94
    refine gR (aC 12 rfl aM rfl rfl Try.underlying31 eH lx94 ux94) ?_
    refine gR (aX (u := iV x94) 12 rfl aM rfl hx94 dv (fun _ _ _ h => by rw [show _ = _ from h]; rfl)) ?_
    obtain ⟨y95, hy95, h⟩ := aa h
    refine gD (al (eS hy95) rH rfl (aj) fi) ?_
    rintro _ _ ⟨_, ⟨rfl, rfl⟩, rfl⟩
    refine run ?_
    refine ar rfl (fun g96 => ?_) (fun g96 => ?_)
    ·replace h := ag g96 h
     refine run ?_
     refine gR (bd 16 rfl rfl fD rfl) ?_
     refine gR (aE (us := [iV y91.Kind, iV y91.Shape, iV y91.Flags, iV 1, .slice A92 n92 c92, .slice A93 n93 c93]) 5 rfl rfl ba rfl) ?_
     refine Ak (cL 0 rfl) ?_
     refine ck ([aF A92 n92 c92 y91.Slots, bT A93 n93 c93 y91.More, aF A88 n88 c88 y87.1.Slots, aF A89 n89 c89 y87.1.More, bT A90 n90 c90 y87.2, aq B86 42 [iV y91.Kind, iV y91.Shape, iV y91.Flags, iV 1, .slice A92 n92 c92, .slice A93 n93 c93], aF A84 n84 c84 y83.Slots, aF A85 n85 c85 y83.More, aq B14 61 [.slice A15 n15 c15, .slice A16 n16 c16, .slice A17 n17 c17, .slice A18 n18 c18, .map (some M19), iV y13.next_], bN A18 n18 c18 y13.met_, bw dT eM M19 y13.seen_, aF A3 n3 c3 a1, bN A21 n21 c21 y20, ca A26 n26 c26 p26, f4 A74 n74 c74 p74, f4 A75 n75 c75 p75, aq B6 24 [.slice A74 n74 c74, .slice A75 n75 c75], aR A15 n15 c15 y13.m_.Young, aR A16 n16 c16 y13.m_.Old, ca A17 n17 c17 y13.kept_]) rfl ?_
     refine Ak (cL 1 rfl) ?_
     refine gD (bB (R := dl) (vss := [[iV y91.Kind, iV y91.Shape, iV y91.Flags, iV 1, .slice A92 n92 c92, .slice A93 n93 c93]]) (xs := [(⟨y91.Kind, y91.Shape, y91.Flags, 1, y91.Slots, y91.More⟩ : DCell)]) rfl (oX _ _ _ _ _ _ _ _ _ _) rfl rfl (fun _ _ hr => .cons (⟨_, _, _, _, _, _, rfl, hr 0 _ rfl rfl, hr 1 _ rfl rfl⟩) All2.nil)) ?_
     rintro _ _ ⟨A97, n97, c97, rfl, rfl⟩
     obtain ⟨q98, h⟩ := ao h
     refine gD (bm 15 0 rfl rfl aM rfl rfl Try.underlying22 vy rfl rfl q98) ?_
     rintro _ _ ⟨A99, n99, c99, rfl, rfl⟩
     refine run ?_
     refine gO (ay (us := [.slice A99 n99 c99]) (cs' := [.slice A99 n99 c99, .slice A75 n75 c75]) 17 rfl rfl rfl rfl nw rfl rfl rfl) ?_
     rintro _ _ rfl
     refine ck ([f4 A97 n97 c97 ([(⟨y91.Kind, y91.Shape, y91.Flags, 1, y91.Slots, y91.More⟩ : DCell)] : List DCell), aF A92 n92 c92 y91.Slots, aF A93 n93 c93 y91.More, aF A88 n88 c88 y87.1.Slots, aF A89 n89 c89 y87.1.More, bT A90 n90 c90 y87.2, aq B86 42 [iV y91.Kind, iV y91.Shape, iV y91.Flags, iV 1, .slice A92 n92 c92, .slice A93 n93 c93], aF A84 n84 c84 y83.Slots, aF A85 n85 c85 y83.More, aq B14 61 [.slice A15 n15 c15, .slice A16 n16 c16, .slice A17 n17 c17, .slice A18 n18 c18, .map (some M19), iV y13.next_], bN A18 n18 c18 y13.met_, bw dT eM M19 y13.seen_, aF A3 n3 c3 a1, bN A21 n21 c21 y20, ca A26 n26 c26 p26, f4 A99 n99 c99 (p74 ++ ([(⟨y91.Kind, y91.Shape, y91.Flags, 1, y91.Slots, y91.More⟩ : DCell)] : List DCell)), f4 A75 n75 c75 p75, aq B6 24 [.slice A99 n99 c99, .slice A75 n75 c75], aR A15 n15 c15 y13.m_.Young, aR A16 n16 c16 y13.m_.Old, ca A17 n17 c17 y13.kept_]) rfl ?_
     refine run ?_
     exact ⟨_, _, ⟨y87.2, p74 ++ ([(⟨y91.Kind, y91.Shape, y91.Flags, 1, y91.Slots, y91.More⟩ : DCell)] : List DCell), p75, A90, n90, c90, A99, n99, c99, A75, n75, c75, h, rfl, rfl⟩, sA, ab [12, 5, 13, 14, 10, 15, 16, 17, 18, 19, 20, 11, 9] 21 rfl rfl⟩
    replace h := ah g96 h
    refine run ?_
    refine gR (bd 16 rfl rfl fD rfl) ?_
    refine gR (aE (us := [iV y91.Kind, iV y91.Shape, iV y91.Flags, iV 1, .slice A92 n92 c92, .slice A93 n93 c93]) 5 rfl rfl ba rfl) ?_
    refine Ak (cL 0 rfl) ?_
    refine Ak (cL 1 rfl) ?_
    refine gD (bB (R := dl) (vss := [[iV y91.Kind, iV y91.Shape, iV y91.Flags, iV 1, .slice A92 n92 c92, .slice A93 n93 c93]]) (xs := [(⟨y91.Kind, y91.Shape, y91.Flags, 1, y91.Slots, y91.More⟩ : DCell)]) rfl (oX _ _ _ _ _ _ _ _ _ _) rfl rfl (fun _ _ hr => .cons (⟨_, _, _, _, _, _, rfl, hr 0 _ rfl rfl, hr 1 _ rfl rfl⟩) All2.nil)) ?_
    rintro _ _ ⟨A100, n100, c100, rfl, rfl⟩
    obtain ⟨q101, h⟩ := ao h
    refine gD (bm 16 0 rfl rfl aM rfl rfl Try.underlying22 vy rfl rfl q101) ?_
    rintro _ _ ⟨A102, n102, c102, rfl, rfl⟩
    refine ck ([f4 A100 n100 c100 ([(⟨y91.Kind, y91.Shape, y91.Flags, 1, y91.Slots, y91.More⟩ : DCell)] : List DCell), aF A92 n92 c92 y91.Slots, aF A93 n93 c93 y91.More, aF A88 n88 c88 y87.1.Slots, aF A89 n89 c89 y87.1.More, bT A90 n90 c90 y87.2, aq B86 42 [iV y91.Kind, iV y91.Shape, iV y91.Flags, iV 1, .slice A92 n92 c92, .slice A93 n93 c93], aF A84 n84 c84 y83.Slots, aF A85 n85 c85 y83.More, aq B14 61 [.slice A15 n15 c15, .slice A16 n16 c16, .slice A17 n17 c17, .slice A18 n18 c18, .map (some M19), iV y13.next_], bN A18 n18 c18 y13.met_, bw dT eM M19 y13.seen_, aF A3 n3 c3 a1, bN A21 n21 c21 y20, ca A26 n26 c26 p26, f4 A74 n74 c74 p74, f4 A102 n102 c102 (p75 ++ ([(⟨y91.Kind, y91.Shape, y91.Flags, 1, y91.Slots, y91.More⟩ : DCell)] : List DCell)), aq B6 24 [.slice A74 n74 c74, .slice A75 n75 c75], aR A15 n15 c15 y13.m_.Young, aR A16 n16 c16 y13.m_.Old, ca A17 n17 c17 y13.kept_]) rfl ?_
    refine run ?_
    refine gO (ay (us := [.slice A102 n102 c102]) (cs' := [.slice A74 n74 c74, .slice A102 n102 c102]) 17 rfl rfl rfl rfl nw rfl rfl rfl) ?_
    rintro _ _ rfl
    refine run ?_
    exact ⟨_, _, ⟨y87.2, p74, p75 ++ ([(⟨y91.Kind, y91.Shape, y91.Flags, 1, y91.Slots, y91.More⟩ : DCell)] : List DCell), A90, n90, c90, A74, n74, c74, A102, n102, c102, h, rfl, rfl⟩, sA, ab [12, 5, 13, 14, 10, 15, 16, 17, 18, 19, 20, 11, 9] 21 rfl rfl⟩
   rintro _ _ ⟨p79, p80, p81, A79, n79, c79, A80, n80, c80, A81, n81, c81, h, rfl, rfl⟩
   refine cN ?_
   obtain ⟨q103, h⟩ := ao h
   refine gE (aN rfl rfl q103.1 q103.2) ?_
   refine run ?_
   exact ⟨m71, _, _, Nat.lt_succ_self _, ⟨p79, p73 + 1, p80, p81, A79, n79, c79, A80, n80, c80, A81, n81, c81, h, rfl, rfl⟩, sA, ab [0, 1, 2, 3, 4, 5, 6, 7, 8, 9, 10, 11, 12] 13 rfl rfl⟩
  replace h := ah g77 h
  refine run ?_
  exact ⟨_, _, ⟨p72, p74, p75, A72, n72, c72, A74, n74, c74, A75, n75, c75, h, rfl, rfl⟩, sA, ab [0, 1, 2, 5, 6, 7, 8, 9, 10, 4, 11, 12] 13 rfl rfl⟩
 rintro _ _ ⟨p68, p69, p70, A68, n68, c68, A69, n69, c69, A70, n70, c70, h, rfl, rfl⟩
 refine av ?_
 refine dY (by kernel_rfl) _ (ac _) ?_
 refine bL 0 rfl (by kernel_rfl) (aE (us := [.slice A69 n69 c69, .slice A70 n70 c70]) 5 rfl rfl ex rfl) rfl rfl ?_
 refine aW 1 rfl (by kernel_rfl) (aI rfl) rfl rfl ?_
 refine aW 2 rfl (by kernel_rfl) (aI rfl) rfl rfl ?_
 refine aW 3 rfl (by kernel_rfl) (cx rfl) rfl rfl ?_
 refine aW 4 rfl (by kernel_rfl) (cK rfl jJ) rfl rfl ?_
 refine bL 5 rfl (by kernel_rfl) (bd 11 rfl rfl iD rfl) rfl rfl ?_
 refine aW 6 rfl (by kernel_rfl) (aI rfl) rfl rfl ?_
 refine aW 8 rfl (by kernel_rfl) (aI rfl) rfl rfl ?_
 refine aW 9 rfl (by kernel_rfl) (aI rfl) rfl rfl ?_
 refine aW 10 rfl (by kernel_rfl) (cx rfl) rfl rfl ?_
 refine aW 11 rfl (by kernel_rfl) (cK rfl jJ) rfl rfl ?_
 refine bL 12 rfl (by kernel_rfl) (bd 11 rfl rfl iD rfl) rfl rfl ?_
 refine aW 13 rfl (by kernel_rfl) (aI rfl) rfl rfl ?_
 obtain ⟨y104, hy104, h⟩ := aa h
 refine ea 7 rfl (by kernel_rfl) (al (lW hy104) zQ rfl (mem_cons (am (i := 0) rfl rfl) (mem_cons (cC (i := 9) rfl) (mem_cons (cC (i := 2) rfl) aj))) kq) rfl rfl rfl ?_
 rintro _ _ ⟨_, ⟨A105, n105, c105, rfl, rfl⟩, rfl⟩
 refine ⟨[aF A3 n3 c3 a1, bT A68 n68 c68 p68, bN A21 n21 c21 y20, f4 A69 n69 c69 p69, f4 A70 n70 c70 p70, aq B6 24 [.slice A69 n69 c69, .slice A70 n70 c70], aR A15 n15 c15 y13.m_.Young, aR A16 n16 c16 y13.m_.Old, ca A17 n17 c17 y13.kept_, bN A18 n18 c18 y13.met_, bw dT eM M19 y13.seen_, aq B14 61 [.slice A15 n15 c15, .slice A16 n16 c16, .slice A17 n17 c17, .slice A18 n18 c18, .map (some M19), iV y13.next_]], ab [1, 2, 3, 4, 5, 6, 7, 8, 9, 10, 11, 12] 13 rfl rfl, ac _, ?_⟩
 obtain ⟨y106, hy106, h⟩ := aa h
 refine ea 14 rfl (by kernel_rfl) (al (lW hy106) zQ rfl (mem_cons (cC (i := 2) rfl) (mem_cons (cC (i := 10) rfl) (mem_cons (cC (i := 3) rfl) aj))) kq) rfl rfl rfl ?_
 rintro _ _ ⟨_, ⟨A107, n107, c107, rfl, rfl⟩, rfl⟩
 refine ⟨[aF A3 n3 c3 a1, bT A68 n68 c68 p68, bN A21 n21 c21 y20, f4 A69 n69 c69 p69, f4 A70 n70 c70 p70, aq B6 24 [.slice A69 n69 c69, .slice A70 n70 c70], aR A15 n15 c15 y13.m_.Young, aR A16 n16 c16 y13.m_.Old, ca A17 n17 c17 y13.kept_, bN A18 n18 c18 y13.met_, bw dT eM M19 y13.seen_, aq B14 61 [.slice A15 n15 c15, .slice A16 n16 c16, .slice A17 n17 c17, .slice A18 n18 c18, .map (some M19), iV y13.next_]], ab [2, 3, 4, 5, 6, 7, 8, 9, 10, 11, 12, 13] 14 rfl rfl, ac _, ?_⟩
 refine ud 15 rfl (by kernel_rfl) (ay (us := [.slice A69 n69 c69, .slice A70 n70 c70]) (cs' := [.slice A69 n69 c69, .slice A70 n70 c70]) 7 rfl rfl rfl rfl lF rfl rfl rfl) rfl rfl ?_
 rintro _ _ rfl
 refine ⟨[aF A3 n3 c3 a1, bT A68 n68 c68 p68, bN A21 n21 c21 y20, f4 A69 n69 c69 p69, f4 A70 n70 c70 p70, aq B6 24 [.slice A69 n69 c69, .slice A70 n70 c70], aR A15 n15 c15 y13.m_.Young, aR A16 n16 c16 y13.m_.Old, ca A17 n17 c17 y13.kept_, bN A18 n18 c18 y13.met_, bw dT eM M19 y13.seen_, aq B14 61 [.slice A15 n15 c15, .slice A16 n16 c16, .slice A17 n17 c17, .slice A18 n18 c18, .map (some M19), iV y13.next_]], ab [2, 3, 4, 5, 6, 7, 8, 9, 10, 11, 12, 13] 14 rfl rfl, ac _, ?_⟩
 refine iR ([bT A107 n107 c107 y106, bT A105 n105 c105 y104, aF A3 n3 c3 a1, bT A68 n68 c68 p68, bN A21 n21 c21 y20, f4 A69 n69 c69 p69, f4 A70 n70 c70 p70, aq B6 24 [.slice A69 n69 c69, .slice A70 n70 c70], aR A15 n15 c15 y13.m_.Young, aR A16 n16 c16 y13.m_.Old, ca A17 n17 c17 y13.kept_, bN A18 n18 c18 y13.met_, bw dT eM M19 y13.seen_, aq B14 61 [.slice A15 n15 c15, .slice A16 n16 c16, .slice A17 n17 c17, .slice A18 n18 c18, .map (some M19), iV y13.next_]]) rfl ?_
 refine aW 16 rfl (by kernel_rfl) (bP rfl) rfl rfl ?_
 refine aW 17 rfl (by kernel_rfl) (bP rfl) rfl rfl ?_
 refine aW 18 rfl (by kernel_rfl) (bP rfl) rfl rfl ?_
 refine dX (by kernel_rfl) ?_
 refine run ?_
 obtain rfl := ak h
 exact eX (rs := [.cell 6 24, .tmp 7, .tmp 8, .tmp 9]) (vs := [.agg #[.slice A69 n69 c69, .slice A70 n70 c70], .slice A105 n105 c105, .slice A107 n107 c107, iV 0]) rfl (.cons (dD 7 rfl rfl ex) (.cons (i9 rfl) (.cons (i9 rfl) (.cons (i9 rfl) .nil)))) rfl (ab [5, 6, 1, 0] 14 rfl rfl) ⟨_, _, _, _, _, _, _, _, _, _, _, _, rfl, rfl⟩
def lB (N : Nat) : Option Bool :=
 (ee N 3).bind fun y1 => (ee N 1).bind fun y10 => (cT N (⟨([(⟨1, 0, 0, 0, ([(⟨1, 0, ⟨#[]⟩⟩ : DValue), y1] : List DValue), []⟩ : DCell), (⟨1, 0, 0, 1, ([(⟨1, 0, ⟨#[]⟩⟩ : DValue)] : List DValue), []⟩ : DCell), (⟨1, 0, 0, 1, ([(⟨1, 0, ⟨#[]⟩⟩ : DValue)] : List DValue), []⟩ : DCell)] : List DCell), []⟩ : DMemory) ([y10] : List DValue) []).bind fun y13 => (bif decide (y13.2.2.2 = 0) then (some (decide ((y13.1.Young.length : Int) = 1))) else (some false)).bind fun b42 => ((bif b42 then ((aH y13.1.Young 0).bind fun x44 => some (decide (x44.Age = 1))) else (some false)).bind fun b43 => ((bif b43 then ((aH y13.1.Young 0).bind fun x46 => (aH x46.Slots 1).bind fun x51 => (ee N 2).bind fun y54 => some (decide (x51 = y54))) else (some false)).bind fun b45 => ((bif b45 then (some (decide ((y13.1.Old.length : Int) = 1))) else (some false)).bind fun b55 => ((bif b55 then (some (decide ((y13.2.1.length : Int) = 1))) else (some false)).bind fun b56 => ((bif b56 then ((aH y13.2.1 0).bind fun x58 => (ee N 1).bind fun y59 => some (decide (x58 = y59))) else (some false)).bind fun b57 => ((bif b57 then (some (decide ((y13.2.2.1.length : Int) = 0))) else (some false)).bind fun b60 => (some b60)))))))
set_option maxHeartbeats 4000000 in
theorem tb {N : Nat} {r : Bool} (h : lB N = some r) : Okc Try.prog 7 [] ([]) (fun u post => u = .bool r ∧ post = []) := by
 refine bz Try.func7 rfl rfl ?_
 simp only [aQ]
 refine run ?_
 refine gE (dJ rfl (vt _)) ?_
 obtain ⟨y1, hy1, h⟩ := aa h
 refine gD (al (gN hy1) tV rfl (aj) fJ) ?_
 rintro _ _ ⟨_, ⟨rfl, rfl⟩, rfl⟩
 refine gD (bB (R := bF) (vss := [[iV 1, iV 0, .string (⟨#[]⟩)], [iV y1.Kind, iV y1.N, .string y1.S]]) (xs := [(⟨1, 0, ⟨#[]⟩⟩ : DValue), y1]) rfl (vq _ _ _ _ _ _) rfl rfl (fun _ _ hr => .cons rfl (.cons rfl All2.nil))) ?_
 rintro _ _ ⟨A2, n2, c2, rfl, rfl⟩
 refine gE (dJ rfl (wA _ _ _ _)) ?_
 refine gD (aS ed rfl) ?_
 rintro _ _ ⟨B3, rfl, rfl⟩
 refine gO (ay (us := [iV 1, iV 0, iV 0, iV 0, .slice A2 n2 c2, .slice none 0 0]) (cs' := [iV 1, iV 0, iV 0, iV 0, .slice A2 n2 c2, .slice none 0 0]) 0 rfl rfl rfl rfl bq rfl rfl rfl) ?_
 rintro _ _ rfl
 refine ck ([aq B3 42 [iV 1, iV 0, iV 0, iV 0, .slice A2 n2 c2, .slice none 0 0], bT A2 n2 c2 ([(⟨1, 0, ⟨#[]⟩⟩ : DValue), y1] : List DValue)]) rfl ?_
 refine run ?_
 refine gE (dJ rfl (vt _)) ?_
 refine gD (bB (R := bF) (vss := [[iV 1, iV 0, .string (⟨#[]⟩)]]) (xs := [(⟨1, 0, ⟨#[]⟩⟩ : DValue)]) rfl (rJ _ _ _) rfl rfl (fun _ _ hr => .cons rfl All2.nil)) ?_
 rintro _ _ ⟨A4, n4, c4, rfl, rfl⟩
 refine gE (dJ rfl (tY _ _ _ _ _)) ?_
 refine gD (aS ed rfl) ?_
 rintro _ _ ⟨B5, rfl, rfl⟩
 refine gO (ay (us := [iV 1, iV 0, iV 0, iV 1, .slice A4 n4 c4, .slice none 0 0]) (cs' := [iV 1, iV 0, iV 0, iV 1, .slice A4 n4 c4, .slice none 0 0]) 0 rfl rfl rfl rfl bq rfl rfl rfl) ?_
 rintro _ _ rfl
 refine ck ([aq B5 42 [iV 1, iV 0, iV 0, iV 1, .slice A4 n4 c4, .slice none 0 0], bT A4 n4 c4 ([(⟨1, 0, ⟨#[]⟩⟩ : DValue)] : List DValue), aq B3 42 [iV 1, iV 0, iV 0, iV 0, .slice A2 n2 c2, .slice none 0 0], bT A2 n2 c2 ([(⟨1, 0, ⟨#[]⟩⟩ : DValue), y1] : List DValue)]) rfl ?_
 refine run ?_
 refine av ?_
 refine fb ?_ cI (cL 1 rfl)
 refine qv ([aq B5 42 [iV 1, iV 0, iV 0, iV 1, .slice A4 n4 c4, .slice none 0 0], aF A4 n4 c4 ([(⟨1, 0, ⟨#[]⟩⟩ : DValue)] : List DValue), aq B3 42 [iV 1, iV 0, iV 0, iV 0, .slice A2 n2 c2, .slice none 0 0], bT A2 n2 c2 ([(⟨1, 0, ⟨#[]⟩⟩ : DValue), y1] : List DValue)]) rfl ?_
 refine fb ?_ cI (cL 3 rfl)
 refine qv ([aq B5 42 [iV 1, iV 0, iV 0, iV 1, .slice A4 n4 c4, .slice none 0 0], aF A4 n4 c4 ([(⟨1, 0, ⟨#[]⟩⟩ : DValue)] : List DValue), aq B3 42 [iV 1, iV 0, iV 0, iV 0, .slice A2 n2 c2, .slice none 0 0], aF A2 n2 c2 ([(⟨1, 0, ⟨#[]⟩⟩ : DValue), y1] : List DValue)]) rfl ?_
 obtain ⟨y10, hy10, h⟩ := aa h
 obtain ⟨y13, hy13, h⟩ := aa h
 refine fb (t := [(0, .bool false), (1, pV B3 0), (2, pV B5 0)]) ?_ gX (ac _)
 refine fo (by kernel_rfl) 14 [10, 11, 12] [9, 10, 11, 12, 13] [15, 16, 17, 18, 19, 20, 21, 22, 14, 23, 24, 25, 26, 3] [[], [], [], [0, 1, 2], [3], [], [5], [4, 6], [7], [8], [8], [8], [8], []] [aV (.agg #[iV 1, iV 0, iV 0, iV 0, .slice A2 n2 c2, .slice none 0 0]),
 aV (.agg #[iV 1, iV 0, iV 0, iV 1, .slice A4 n4 c4, .slice none 0 0]),
 aV (.agg #[iV 1, iV 0, iV 0, iV 1, .slice A4 n4 c4, .slice none 0 0]),
 aX3 (fun (A7 : Option Addr) (n7 c7 : Nat) => .slice A7 n7 c7) (fun A7 n7 c7 => [aR A7 n7 c7 ([(⟨1, 0, 0, 0, ([(⟨1, 0, ⟨#[]⟩⟩ : DValue), y1] : List DValue), []⟩ : DCell), (⟨1, 0, 0, 1, ([(⟨1, 0, ⟨#[]⟩⟩ : DValue)] : List DValue), []⟩ : DCell), (⟨1, 0, 0, 1, ([(⟨1, 0, ⟨#[]⟩⟩ : DValue)] : List DValue), []⟩ : DCell)] : List DCell)]),
 aX3 (fun (A8 : Option Addr) (n8 c8 : Nat) => .agg #[.slice A8 n8 c8, .slice none 0 0]) (fun A8 n8 c8 => [aR A8 n8 c8 ([(⟨1, 0, 0, 0, ([(⟨1, 0, ⟨#[]⟩⟩ : DValue), y1] : List DValue), []⟩ : DCell), (⟨1, 0, 0, 1, ([(⟨1, 0, ⟨#[]⟩⟩ : DValue)] : List DValue), []⟩ : DCell), (⟨1, 0, 0, 1, ([(⟨1, 0, ⟨#[]⟩⟩ : DValue)] : List DValue), []⟩ : DCell)] : List DCell)]),
 aV (.agg #[iV y10.Kind, iV y10.N, .string y10.S]),
 aX3 (fun (A12 : Option Addr) (n12 c12 : Nat) => .slice A12 n12 c12) (fun A12 n12 c12 => [aF A12 n12 c12 ([y10] : List DValue)]),
 aX12 (fun (A20 : Option Addr) (n20 c20 : Nat) (A21 : Option Addr) (n21 c21 : Nat) (A22 : Option Addr) (n22 c22 : Nat) (A23 : Option Addr) (n23 c23 : Nat) => .tuple #[.agg #[.slice A20 n20 c20, .slice A21 n21 c21], .slice A22 n22 c22, .slice A23 n23 c23, iV y13.2.2.2]) (fun A20 n20 c20 A21 n21 c21 A22 n22 c22 A23 n23 c23 => [aR A20 n20 c20 y13.1.Young, aR A21 n21 c21 y13.1.Old, aF A22 n22 c22 y13.2.1, aF A23 n23 c23 y13.2.2.1]),
 aX12 (fun (A24 : Option Addr) (n24 c24 : Nat) (A25 : Option Addr) (n25 c25 : Nat) (A26 : Option Addr) (n26 c26 : Nat) (A27 : Option Addr) (n27 c27 : Nat) => .tuple #[.agg #[.slice A24 n24 c24, .slice A25 n25 c25], .slice A26 n26 c26, .slice A27 n27 c27, iV y13.2.2.2]) (fun A24 n24 c24 A25 n25 c25 A26 n26 c26 A27 n27 c27 => [aR A24 n24 c24 y13.1.Young, aR A25 n25 c25 y13.1.Old, aF A26 n26 c26 y13.2.1, aF A27 n27 c27 y13.2.2.1]),
 aX6 (fun (A32 : Option Addr) (n32 c32 : Nat) (A33 : Option Addr) (n33 c33 : Nat) => .agg #[.slice A32 n32 c32, .slice A33 n33 c33]) (fun A32 n32 c32 A33 n33 c33 => [aR A32 n32 c32 y13.1.Young, aR A33 n33 c33 y13.1.Old]),
 aX3 (fun (A36 : Option Addr) (n36 c36 : Nat) => .slice A36 n36 c36) (fun A36 n36 c36 => [aF A36 n36 c36 y13.2.1]),
 aX3 (fun (A38 : Option Addr) (n38 c38 : Nat) => .slice A38 n38 c38) (fun A38 n38 c38 => [aF A38 n38 c38 y13.2.2.1]),
 aV (iV y13.2.2.2),
 aX1 (fun (B41 : Nat) => pV B41 0) (fun B41 => [aq B41 24 [.slice none 0 0, .slice none 0 0]])] [] (ac _) (eJ rfl (eJ rfl (eJ rfl gH))) (by kernel_rfl) rfl rfl ?_ ?_ ?_
 ·refine eI rfl ?_ ?_
  ·intro A24 n24 c24 A25 n25 c25 A26 n26 c26 A27 n27 c27
   exact nn (cc rfl rfl) rfl (ig A26 n26 c26 ((cA 2 rfl rfl).trans (ac _)))
  refine eI rfl ?_ ?_
  ·intro A24 n24 c24 A25 n25 c25 A26 n26 c26 A27 n27 c27
   exact nn (cc rfl rfl) rfl (ig A27 n27 c27 ((cA 3 rfl rfl).trans (ac _)))
  refine eI rfl ?_ ?_
  ·intro A24 n24 c24 A25 n25 c25 A26 n26 c26 A27 n27 c27
   exact nn (cc rfl rfl) rfl (aD rfl (ac _))
  exact gG
 ·refine ae rfl ?_ ?_
  ·refine jy (aS qz rfl) rfl ?_
   rintro _ _ ⟨B40, rfl, rfl⟩
   exact Co B40 (ac _)
  refine ae rfl ?_ ?_
  ·intro A24 n24 c24 A25 n25 c25 A26 n26 c26 A27 n27 c27
   exact bj (cc rfl rfl) rfl (aD rfl (ac _))
  refine ae rfl ?_ ?_
  ·intro A24 n24 c24 A25 n25 c25 A26 n26 c26 A27 n27 c27
   exact bj (cc rfl rfl) rfl (ig A27 n27 c27 ((cA 3 rfl rfl).trans (ac _)))
  refine ae rfl ?_ ?_
  ·intro A24 n24 c24 A25 n25 c25 A26 n26 c26 A27 n27 c27
   exact bj (cc rfl rfl) rfl (ig A26 n26 c26 ((cA 2 rfl rfl).trans (ac _)))
  refine ae rfl ?_ ?_
  ·intro A24 n24 c24 A25 n25 c25 A26 n26 c26 A27 n27 c27
   exact bj (cc rfl rfl) rfl (zA A24 n24 c24 A25 n25 c25 ((cA 0 rfl rfl).trans ((cA 2 rfl rfl).trans (ab [1, 0, 2, 3, 4, 5, 6, 7, 8, 9] 10 rfl rfl))))
  refine ae rfl ?_ ?_
  ·intro A20 n20 c20 A21 n21 c21 A22 n22 c22 A23 n23 c23
   exact bj (aI rfl) rfl (xj A20 n20 c20 A21 n21 c21 A22 n22 c22 A23 n23 c23 ((cA 0 rfl rfl).trans ((cA 2 rfl rfl).trans ((cA 4 rfl rfl).trans ((cA 6 rfl rfl).trans (ab [3, 2, 1, 0, 4, 5, 6, 7, 8, 9, 10, 11] 12 rfl rfl))))))
  refine ae rfl ?_ ?_
  ·intro A8 n8 c8 A12 n12 c12
   refine Dm (xm dl _) ?_
   refine Dm (xm (ge .i64) _) ?_
   refine jy (cg (ks hy13) BS rfl (bO [2, 1, 3, 0] [] [0, 1, 2, 3, 4, 5, 6, 7] 8 rfl)) rfl ?_
   rintro _ _ ⟨_, ⟨A14, n14, c14, A15, n15, c15, A16, n16, c16, A17, n17, c17, rfl, rfl⟩, rfl⟩
   exact xj A14 n14 c14 A15 n15 c15 A16 n16 c16 A17 n17 c17 ((cL 0 rfl).trans ((cL 1 rfl).trans ((cL 2 rfl).trans ((cL 3 rfl).trans (ab [0, 1, 2, 3, 6, 7, 8, 9, 10, 11] 12 rfl rfl)))))
  refine ae rfl ?_ ?_
  ·refine jy (bB (R := bF) (vss := [[iV y10.Kind, iV y10.N, .string y10.S]]) (xs := [y10]) rfl (rJ _ _ _) rfl rfl (fun _ _ hr => .cons rfl All2.nil)) rfl ?_
   rintro _ _ ⟨A11, n11, c11, rfl, rfl⟩
   exact ig A11 n11 c11 ((cL 0 rfl).trans (ac _))
  refine ae rfl ?_ ?_
  ·refine jy (al (gN hy10) tV rfl (aj) fJ) rfl ?_
   rintro _ _ ⟨_, ⟨rfl, rfl⟩, rfl⟩
   exact aD rfl (ac _)
  refine ae rfl ?_ ?_
  ·intro A7 n7 c7
   exact bj (dJ rfl (z8 _ _ _)) rfl (ig A7 n7 c7 ((cA 0 rfl rfl).trans (ac _)))
  refine ae rfl ?_ ?_
  ·refine jy (bB (R := dl) (vss := [[iV 1, iV 0, iV 0, iV 0, .slice A2 n2 c2, .slice none 0 0], [iV 1, iV 0, iV 0, iV 1, .slice A4 n4 c4, .slice none 0 0], [iV 1, iV 0, iV 0, iV 1, .slice A4 n4 c4, .slice none 0 0]]) (xs := [(⟨1, 0, 0, 0, ([(⟨1, 0, ⟨#[]⟩⟩ : DValue), y1] : List DValue), []⟩ : DCell), (⟨1, 0, 0, 1, ([(⟨1, 0, ⟨#[]⟩⟩ : DValue)] : List DValue), []⟩ : DCell), (⟨1, 0, 0, 1, ([(⟨1, 0, ⟨#[]⟩⟩ : DValue)] : List DValue), []⟩ : DCell)]) rfl (z6 _ _ _ _ _ _ _ _ _ _ _ _ _ _ _ _ _ _ _ _ _ _ _ _ _ _ _ _ _ _) rfl rfl (fun _ _ hr => .cons (⟨_, _, _, _, _, _, rfl, hr 3 _ rfl rfl, mC _ _ _⟩) (.cons (⟨_, _, _, _, _, _, rfl, hr 1 _ rfl rfl, mC _ _ _⟩) (.cons (⟨_, _, _, _, _, _, rfl, hr 1 _ rfl rfl, mC _ _ _⟩) All2.nil)))) rfl ?_
   rintro _ _ ⟨A6, n6, c6, rfl, rfl⟩
   exact ig A6 n6 c6 ((cL 0 rfl).trans (ac _))
  refine ae rfl ?_ ?_
  ·exact bW (aE (us := [iV 1, iV 0, iV 0, iV 1, .slice A4 n4 c4, .slice none 0 0]) 0 rfl rfl ba rfl) rfl (aD rfl (ac _))
  refine ae rfl ?_ ?_
  ·exact bW (aE (us := [iV 1, iV 0, iV 0, iV 1, .slice A4 n4 c4, .slice none 0 0]) 0 rfl rfl ba rfl) rfl (aD rfl (ac _))
  refine ae rfl ?_ ?_
  ·exact bW (aE (us := [iV 1, iV 0, iV 0, iV 0, .slice A2 n2 c2, .slice none 0 0]) 2 rfl rfl ba rfl) rfl (aD rfl (ac _))
  exact db
 intro A32 n32 c32 A33 n33 c33 A36 n36 c36 A38 n38 c38 B41
 refine jN (t := [(23, .agg #[.slice A32 n32 c32, .slice A33 n33 c33]), (24, .slice A36 n36 c36), (25, .slice A38 n38 c38), (26, iV y13.2.2.2), (3, pV B41 0), (0, .bool false), (1, pV B3 0), (2, pV B5 0)]) (L' := [aR A32 n32 c32 y13.1.Young, aR A33 n33 c33 y13.1.Old, aF A36 n36 c36 y13.2.1, aF A38 n38 c38 y13.2.2.1, aq B41 24 [.slice none 0 0, .slice none 0 0], aq B5 42 [iV 1, iV 0, iV 0, iV 1, .slice A4 n4 c4, .slice none 0 0], aF A4 n4 c4 ([(⟨1, 0, ⟨#[]⟩⟩ : DValue)] : List DValue), aq B3 42 [iV 1, iV 0, iV 0, iV 0, .slice A2 n2 c2, .slice none 0 0], aF A2 n2 c2 ([(⟨1, 0, ⟨#[]⟩⟩ : DValue), y1] : List DValue)]) ?_ gX (ac _)
 refine mq 14 rfl (by kernel_rfl) (ay (us := [.slice A32 n32 c32, .slice A33 n33 c33]) (cs' := [.slice A32 n32 c32, .slice A33 n33 c33]) 4 rfl rfl rfl rfl lF rfl rfl rfl) rfl rfl ?_
 rintro _ _ rfl
 refine uf ([aR A32 n32 c32 y13.1.Young, aR A33 n33 c33 y13.1.Old, aF A36 n36 c36 y13.2.1, aF A38 n38 c38 y13.2.2.1, aq B41 24 [.slice A32 n32 c32, .slice A33 n33 c33], aq B5 42 [iV 1, iV 0, iV 0, iV 1, .slice A4 n4 c4, .slice none 0 0], aF A4 n4 c4 ([(⟨1, 0, ⟨#[]⟩⟩ : DValue)] : List DValue), aq B3 42 [iV 1, iV 0, iV 0, iV 0, .slice A2 n2 c2, .slice none 0 0], aF A2 n2 c2 ([(⟨1, 0, ⟨#[]⟩⟩ : DValue), y1] : List DValue)]) rfl ?_
 refine oZ 15 rfl (by kernel_rfl) (bP rfl) rfl rfl rfl ?_
 refine oZ 16 rfl (by kernel_rfl) (bP rfl) rfl rfl rfl ?_
 refine oZ 17 rfl (by kernel_rfl) (bP rfl) rfl rfl rfl ?_
 refine gM (by kernel_rfl) ?_
 refine kO ?_
 refine av ?_
 obtain ⟨b42, hb42, h⟩ := aa h
 obtain ⟨c42, hc42⟩ : ∃ c, decide (y13.2.2.2 = 0) = c := ⟨_, rfl⟩
 obtain hs42 : c42 = true → ((decide ((y13.1.Young.length : Int) = 1)) = b42) := by
  cases c42
  ·exact fun e => by cases e
  replace hb42 := ag hc42 hb42
  exact fun _ => Option.some.inj hb42
 have ho42 : c42 = false → b42 = false := fun e => (Option.some.inj (ah (hc42.trans e) hb42)).symm
 obtain ⟨b43, hb43, h⟩ := aa h
 obtain ⟨c43, hc43⟩ : ∃ c, b42 = c := ⟨_, rfl⟩
 obtain ⟨x44, hs43⟩ : ∃ (x44 : DCell), c43 = true → ((aH y13.1.Young 0) = some x44 ∧ (decide (x44.Age = 1)) = b43) := by
  cases c43
  ·exact ⟨default, fun e => by cases e⟩
  replace hb43 := ag hc43 hb43
  obtain ⟨x44, hx44, hb43⟩ := aa hb43
  exact ⟨x44, fun _ => ⟨hx44, Option.some.inj hb43⟩⟩
 have ho43 : c43 = false → b43 = false := fun e => (Option.some.inj (ah (hc43.trans e) hb43)).symm
 obtain ⟨b45, hb45, h⟩ := aa h
 obtain ⟨c45, hc45⟩ : ∃ c, b43 = c := ⟨_, rfl⟩
 obtain ⟨x46, x51, y54, hs45⟩ : ∃ (x46 : DCell) (x51 : DValue) (y54 : (DValue)), c45 = true → ((aH y13.1.Young 0) = some x46 ∧ (aH x46.Slots 1) = some x51 ∧ (ee N 2) = some y54 ∧ (decide (x51 = y54)) = b45) := by
  cases c45
  ·exact ⟨default, default, default, fun e => by cases e⟩
  replace hb45 := ag hc45 hb45
  obtain ⟨x46, hx46, hb45⟩ := aa hb45
  obtain ⟨x51, hx51, hb45⟩ := aa hb45
  obtain ⟨y54, hy54, hb45⟩ := aa hb45
  exact ⟨x46, x51, y54, fun _ => ⟨hx46, hx51, hy54, Option.some.inj hb45⟩⟩
 have ho45 : c45 = false → b45 = false := fun e => (Option.some.inj (ah (hc45.trans e) hb45)).symm
 obtain ⟨b55, hb55, h⟩ := aa h
 obtain ⟨c55, hc55⟩ : ∃ c, b45 = c := ⟨_, rfl⟩
 obtain hs55 : c55 = true → ((decide ((y13.1.Old.length : Int) = 1)) = b55) := by
  cases c55
  ·exact fun e => by cases e
  replace hb55 := ag hc55 hb55
  exact fun _ => Option.some.inj hb55
 have ho55 : c55 = false → b55 = false := fun e => (Option.some.inj (ah (hc55.trans e) hb55)).symm
 obtain ⟨b56, hb56, h⟩ := aa h
 obtain ⟨c56, hc56⟩ : ∃ c, b55 = c := ⟨_, rfl⟩
 obtain hs56 : c56 = true → ((decide ((y13.2.1.length : Int) = 1)) = b56) := by
  cases c56
  ·exact fun e => by cases e
  replace hb56 := ag hc56 hb56
  exact fun _ => Option.some.inj hb56
 have ho56 : c56 = false → b56 = false := fun e => (Option.some.inj (ah (hc56.trans e) hb56)).symm
 obtain ⟨b57, hb57, h⟩ := aa h
 obtain ⟨c57, hc57⟩ : ∃ c, b56 = c := ⟨_, rfl⟩
 obtain ⟨x58, y59, hs57⟩ : ∃ (x58 : DValue) (y59 : (DValue)), c57 = true → ((aH y13.2.1 0) = some x58 ∧ (ee N 1) = some y59 ∧ (decide (x58 = y59)) = b57) := by
  cases c57
  ·exact ⟨default, default, fun e => by cases e⟩
  replace hb57 := ag hc57 hb57
  obtain ⟨x58, hx58, hb57⟩ := aa hb57
  obtain ⟨y59, hy59, hb57⟩ := aa hb57
  exact ⟨x58, y59, fun _ => ⟨hx58, hy59, Option.some.inj hb57⟩⟩
 have ho57 : c57 = false → b57 = false := fun e => (Option.some.inj (ah (hc57.trans e) hb57)).symm
 obtain ⟨b60, hb60, h⟩ := aa h
 obtain ⟨c60, hc60⟩ : ∃ c, b57 = c := ⟨_, rfl⟩
 obtain hs60 : c60 = true → ((decide ((y13.2.2.1.length : Int) = 0)) = b60) := by
  cases c60
  ·exact fun e => by cases e
  replace hb60 := ag hc60 hb60
  exact fun _ => Option.some.inj hb60
 have ho60 : c60 = false → b60 = false := fun e => (Option.some.inj (ah (hc60.trans e) hb60)).symm
 refine fb (t := [(0, .bool false), (3, pV B41 0), (4, .slice A36 n36 c36), (5, .slice A38 n38 c38), (6, iV y13.2.2.2)]) ?_ gX (ac _)
 refine fo (by kernel_rfl) 50 [] [49] [27, 28, 29, 30, 31, 32, 33, 34, 35, 36, 37, 38, 39, 40, 41, 42, 43, 44, 45, 46, 47, 48, 49, 50, 51, 52, 53, 54, 55, 56, 57, 58, 59, 60, 61, 62, 63, 64, 65, 66, 67, 68, 69, 70, 71, 72, 73, 74, 75, 76] [[], [0], [1], [2], [2, 3], [2, 4], [2, 5], [2, 6], [7], [8], [8, 9], [8, 10], [8, 11], [8, 12], [8, 13], [8, 14], [15], [16], [16, 17], [16, 18], [16, 19], [16, 20], [16, 21], [16, 22], [16], [16, 23, 24], [16, 25], [26], [27], [27, 28], [27, 29], [27, 30], [27, 31], [32], [33], [33, 34], [33, 35], [33, 36], [37], [38], [38, 39], [38, 40], [38], [38, 41, 42], [38, 43], [44], [45], [45, 46], [45, 47], [45, 48]] [aV (iV y13.2.2.2),
aV (.bool (decide (y13.2.2.2 = 0))),
aV (.bool (decide (y13.2.2.2 = 0))),
(bif c42 then aV (pV B41 0) else aV undef),
(bif c42 then aV (.slice A32 n32 c32) else aV undef),
(bif c42 then aV (iV (y13.1.Young.length : Int)) else aV undef),
(bif c42 then aV (.bool (decide ((y13.1.Young.length : Int) = 1))) else aV undef),
aV (.bool b42),
aV (.bool b42),
(bif c43 then aV (pV B41 0) else aV undef),
(bif c43 then aV (.slice A32 n32 c32) else aV undef),
(bif c43 then aV (bK (.slice A32 n32 c32) ((0 : Int).toNat) 6 0) else aV undef),
(bif c43 then aV (bK (.slice A32 n32 c32) ((0 : Int).toNat) 6 3) else aV undef),
(bif c43 then aV (iV x44.Age) else aV undef),
(bif c43 then aV (.bool (decide (x44.Age = 1))) else aV undef),
aV (.bool b43),
aV (.bool b43),
(bif c45 then aV (pV B41 0) else aV undef),
(bif c45 then aV (.slice A32 n32 c32) else aV undef),
(bif c45 then aV (bK (.slice A32 n32 c32) ((0 : Int).toNat) 6 0) else aV undef),
(bif c45 then aV (bK (.slice A32 n32 c32) ((0 : Int).toNat) 6 4) else aV undef),
(bif c45 then aX3 (fun (A50 : Option Addr) (n50 c50 : Nat) => .slice A50 n50 c50) (fun A50 n50 c50 => [aF A50 n50 c50 x46.Slots]) else aV undef),
(bif c45 then aX3 (fun (A52 : Option Addr) (n52 c52 : Nat) => bK (.slice A52 n52 c52) ((1 : Int).toNat) 3 0) (fun A52 n52 c52 => [aF A52 n52 c52 x46.Slots]) else aV undef),
(bif c45 then aV (.agg #[iV x51.Kind, iV x51.N, .string x51.S]) else aV undef),
(bif c45 then aV (.agg #[iV y54.Kind, iV y54.N, .string y54.S]) else aV undef),
(bif c45 then aV (.bool (decide (x51 = y54))) else aV undef),
aV (.bool b45),
aV (.bool b45),
(bif c55 then aV (pV B41 1) else aV undef),
(bif c55 then aV (.slice A33 n33 c33) else aV undef),
(bif c55 then aV (iV (y13.1.Old.length : Int)) else aV undef),
(bif c55 then aV (.bool (decide ((y13.1.Old.length : Int) = 1))) else aV undef),
aV (.bool b55),
aV (.bool b55),
(bif c56 then aV (.slice A36 n36 c36) else aV undef),
(bif c56 then aV (iV (y13.2.1.length : Int)) else aV undef),
(bif c56 then aV (.bool (decide ((y13.2.1.length : Int) = 1))) else aV undef),
aV (.bool b56),
aV (.bool b56),
(bif c57 then aV (.slice A36 n36 c36) else aV undef),
(bif c57 then aV (bK (.slice A36 n36 c36) ((0 : Int).toNat) 3 0) else aV undef),
(bif c57 then aV (.agg #[iV x58.Kind, iV x58.N, .string x58.S]) else aV undef),
(bif c57 then aV (.agg #[iV y59.Kind, iV y59.N, .string y59.S]) else aV undef),
(bif c57 then aV (.bool (decide (x58 = y59))) else aV undef),
aV (.bool b57),
aV (.bool b57),
(bif c60 then aV (.slice A38 n38 c38) else aV undef),
(bif c60 then aV (iV (y13.2.2.1.length : Int)) else aV undef),
(bif c60 then aV (.bool (decide ((y13.2.2.1.length : Int) = 0))) else aV undef),
aV (.bool b60)] [] (ac _) (gH) (by kernel_rfl) rfl rfl ?_ ?_ ?_
 ·exact gG
 ·refine ae rfl ?_ ?_
  ·cases c60
   ·exact bj (dn hc60 rfl rfl) rfl (aD (by rw [ho60 rfl]) (ac _))
   have hv60 := hs60 rfl
   exact bj (dm hc60 rfl rfl) rfl (aD (by rw [hv60]) (ac _))
  refine ae rfl ?_ ?_
  ·cases c60
   ·exact fm (eV hc60 rfl) (aD rfl (ac _))
   have hv60 := hs60 rfl
   exact bj (oR rfl rfl) (aJ hc60 rfl) (aD rfl (ac _))
  refine ae rfl ?_ ?_
  ·cases c60
   ·exact fm (eV hc60 rfl) (aD rfl (ac _))
   have hv60 := hs60 rfl
   exact bW (az 3 rfl ai rfl Try.underlying25) (aJ hc60 rfl) (aD rfl (ac _))
  refine ae rfl ?_ ?_
  ·cases c60
   ·exact fm (eV hc60 rfl) (aD rfl (ac _))
   have hv60 := hs60 rfl
   exact bj (aI rfl) (aJ hc60 rfl) (aD rfl (ac _))
  refine ae rfl ?_ ?_
  ·exact bj (aI rfl) rfl (aD rfl (ac _))
  refine ae rfl ?_ ?_
  ·cases c57
   ·exact bj (dn hc57 rfl rfl) rfl (aD (by rw [ho57 rfl]) (ac _))
   obtain ⟨hx58, hy59, hv57⟩ := hs57 rfl
   exact bj (dm hc57 rfl rfl) rfl (aD (by rw [hv57]) (ac _))
  refine ae rfl ?_ ?_
  ·cases c57
   ·exact fm (eV hc57 rfl) (aD rfl (ac _))
   obtain ⟨hx58, hy59, hv57⟩ := hs57 rfl
   exact bj (uZ (x := x58) (y := y59) rfl rfl) (aJ hc57 rfl) (aD rfl (ac _))
  refine ae rfl ?_ ?_
  ·cases c57
   ·exact fm (eV hc57 rfl) (aD rfl (ac _))
   obtain ⟨hx58, hy59, hv57⟩ := hs57 rfl
   refine jy (al (gN hy59) tV rfl (aj) fJ) (aJ hc57 rfl) ?_
   rintro _ _ ⟨_, ⟨rfl, rfl⟩, rfl⟩
   exact aD rfl (ac _)
  refine ae rfl ?_ ?_
  ·cases c57
   ·exact fm (eV hc57 rfl) (aD rfl (ac _))
   obtain ⟨hx58, hy59, hv57⟩ := hs57 rfl
   obtain ⟨lx58, ux58, hx58⟩ := ap hx58
   exact bW (aO (us := [iV x58.Kind, iV x58.N, .string x58.S]) 2 rfl ai rfl hx58 bp (fun _ _ _ h => by rw [show _ = _ from h]; rfl)) (aJ hc57 rfl) (aD rfl (ac _))
  refine ae rfl ?_ ?_
  ·cases c57
   ·exact fm (eV hc57 rfl) (aD rfl (ac _))
   obtain ⟨hx58, hy59, hv57⟩ := hs57 rfl
   obtain ⟨lx58, ux58, hx58⟩ := ap hx58
   exact bW (aC 2 rfl ai rfl rfl Try.underlying25 aG lx58 ux58) (aJ hc57 rfl) (aD rfl (ac _))
  refine ae rfl ?_ ?_
  ·cases c57
   ·exact fm (eV hc57 rfl) (aD rfl (ac _))
   obtain ⟨hx58, hy59, hv57⟩ := hs57 rfl
   exact bj (aI rfl) (aJ hc57 rfl) (aD rfl (ac _))
  refine ae rfl ?_ ?_
  ·exact bj (aI rfl) rfl (aD rfl (ac _))
  refine ae rfl ?_ ?_
  ·cases c56
   ·exact bj (dn hc56 rfl rfl) rfl (aD (by rw [ho56 rfl]) (ac _))
   have hv56 := hs56 rfl
   exact bj (dm hc56 rfl rfl) rfl (aD (by rw [hv56]) (ac _))
  refine ae rfl ?_ ?_
  ·cases c56
   ·exact fm (eV hc56 rfl) (aD rfl (ac _))
   have hv56 := hs56 rfl
   exact bj (oR rfl rfl) (aJ hc56 rfl) (aD rfl (ac _))
  refine ae rfl ?_ ?_
  ·cases c56
   ·exact fm (eV hc56 rfl) (aD rfl (ac _))
   have hv56 := hs56 rfl
   exact bW (az 2 rfl ai rfl Try.underlying25) (aJ hc56 rfl) (aD rfl (ac _))
  refine ae rfl ?_ ?_
  ·cases c56
   ·exact fm (eV hc56 rfl) (aD rfl (ac _))
   have hv56 := hs56 rfl
   exact bj (aI rfl) (aJ hc56 rfl) (aD rfl (ac _))
  refine ae rfl ?_ ?_
  ·exact bj (aI rfl) rfl (aD rfl (ac _))
  refine ae rfl ?_ ?_
  ·cases c55
   ·exact bj (dn hc55 rfl rfl) rfl (aD (by rw [ho55 rfl]) (ac _))
   have hv55 := hs55 rfl
   exact bj (dm hc55 rfl rfl) rfl (aD (by rw [hv55]) (ac _))
  refine ae rfl ?_ ?_
  ·cases c55
   ·exact fm (eV hc55 rfl) (aD rfl (ac _))
   have hv55 := hs55 rfl
   exact bj (oR rfl rfl) (aJ hc55 rfl) (aD rfl (ac _))
  refine ae rfl ?_ ?_
  ·cases c55
   ·exact fm (eV hc55 rfl) (aD rfl (ac _))
   have hv55 := hs55 rfl
   exact bW (az 1 rfl ai rfl Try.underlying22) (aJ hc55 rfl) (aD rfl (ac _))
  refine ae rfl ?_ ?_
  ·cases c55
   ·exact fm (eV hc55 rfl) (aD rfl (ac _))
   have hv55 := hs55 rfl
   exact bW (bd 4 rfl rfl fD rfl) (aJ hc55 rfl) (aD rfl (ac _))
  refine ae rfl ?_ ?_
  ·cases c55
   ·exact fm (eV hc55 rfl) (aD rfl (ac _))
   have hv55 := hs55 rfl
   exact bj (cK rfl jK) (aJ hc55 rfl) (aD rfl (ac _))
  refine ae rfl ?_ ?_
  ·exact bj (aI rfl) rfl (aD rfl (ac _))
  refine ae rfl ?_ ?_
  ·cases c45
   ·exact bj (dn hc45 rfl rfl) rfl (aD (by rw [ho45 rfl]) (ac _))
   obtain ⟨hx46, hx51, hy54, hv45⟩ := hs45 rfl
   exact bj (dm hc45 rfl rfl) rfl (aD (by rw [hv45]) (ac _))
  refine ae rfl ?_ ?_
  ·cases c45
   ·exact fm (eV hc45 rfl) (aD rfl (ac _))
   obtain ⟨hx46, hx51, hy54, hv45⟩ := hs45 rfl
   exact bj (uZ (x := x51) (y := y54) rfl rfl) (aJ hc45 rfl) (aD rfl (ac _))
  refine ae rfl ?_ ?_
  ·cases c45
   ·exact fm (eV hc45 rfl) (aD rfl (ac _))
   obtain ⟨hx46, hx51, hy54, hv45⟩ := hs45 rfl
   refine jy (al (gN hy54) tV rfl (aj) fJ) (aJ hc45 rfl) ?_
   rintro _ _ ⟨_, ⟨rfl, rfl⟩, rfl⟩
   exact aD rfl (ac _)
  refine ae rfl ?_ ?_
  ·cases c45
   ·exact fm (eV hc45 rfl) (aD rfl (ac _))
   obtain ⟨hx46, hx51, hy54, hv45⟩ := hs45 rfl
   obtain ⟨lx51, ux51, hx51⟩ := ap hx51
   intro A52 n52 c52
   exact bW (aO (us := [iV x51.Kind, iV x51.N, .string x51.S]) 0 rfl ai rfl hx51 bp (fun _ _ _ h => by rw [show _ = _ from h]; rfl)) (aJ hc45 rfl) (aD rfl (ac _))
  refine ae rfl ?_ ?_
  ·cases c45
   ·exact fm (eV hc45 rfl) (aD rfl (ac _))
   obtain ⟨hx46, hx51, hy54, hv45⟩ := hs45 rfl
   obtain ⟨lx51, ux51, hx51⟩ := ap hx51
   intro A50 n50 c50
   exact bW (aC 0 rfl ai rfl rfl Try.underlying25 aG lx51 ux51) (aJ hc45 rfl) (ig A50 n50 c50 ((cA 0 rfl rfl).trans (ac _)))
  refine ae rfl ?_ ?_
  ·cases c45
   ·exact fm (eV hc45 rfl) (aD rfl (ac _))
   obtain ⟨hx46, hx51, hy54, hv45⟩ := hs45 rfl
   obtain ⟨lx46, ux46, hx46⟩ := ap hx46
   refine Dl 0 rfl hx46 (cE x46) ?_
   rintro _ _ ⟨A47, n47, c47, A48, n48, c48, rfl, rfl⟩
   exact bW (Az 0 rfl rfl ft rfl) (aJ hc45 rfl) (ig A47 n47 c47 (ab [1, 3, 4, 5, 6, 7, 8, 9, 10, 11] 12 rfl rfl))
  refine ae rfl ?_ ?_
  ·cases c45
   ·exact fm (eV hc45 rfl) (aD rfl (ac _))
   obtain ⟨hx46, hx51, hy54, hv45⟩ := hs45 rfl
   obtain ⟨lx46, ux46, hx46⟩ := ap hx46
   exact bW (oa 0 rfl ai rfl (bU lx46 ux46) kV) (aJ hc45 rfl) (aD rfl (ac _))
  refine ae rfl ?_ ?_
  ·cases c45
   ·exact fm (eV hc45 rfl) (aD rfl (ac _))
   obtain ⟨hx46, hx51, hy54, hv45⟩ := hs45 rfl
   obtain ⟨lx46, ux46, hx46⟩ := ap hx46
   exact bW (aC 0 rfl ai rfl rfl Try.underlying22 bq lx46 ux46) (aJ hc45 rfl) (aD rfl (ac _))
  refine ae rfl ?_ ?_
  ·cases c45
   ·exact fm (eV hc45 rfl) (aD rfl (ac _))
   obtain ⟨hx46, hx51, hy54, hv45⟩ := hs45 rfl
   exact bW (bd 4 rfl rfl fD rfl) (aJ hc45 rfl) (aD rfl (ac _))
  refine ae rfl ?_ ?_
  ·cases c45
   ·exact fm (eV hc45 rfl) (aD rfl (ac _))
   obtain ⟨hx46, hx51, hy54, hv45⟩ := hs45 rfl
   exact bj (kY rfl oP) (aJ hc45 rfl) (aD rfl (ac _))
  refine ae rfl ?_ ?_
  ·exact bj (aI rfl) rfl (aD rfl (ac _))
  refine ae rfl ?_ ?_
  ·cases c43
   ·exact bj (dn hc43 rfl rfl) rfl (aD (by rw [ho43 rfl]) (ac _))
   obtain ⟨hx44, hv43⟩ := hs43 rfl
   exact bj (dm hc43 rfl rfl) rfl (aD (by rw [hv43]) (ac _))
  refine ae rfl ?_ ?_
  ·cases c43
   ·exact fm (eV hc43 rfl) (aD rfl (ac _))
   obtain ⟨hx44, hv43⟩ := hs43 rfl
   exact bj (oR rfl rfl) (aJ hc43 rfl) (aD rfl (ac _))
  refine ae rfl ?_ ?_
  ·cases c43
   ·exact fm (eV hc43 rfl) (aD rfl (ac _))
   obtain ⟨hx44, hv43⟩ := hs43 rfl
   obtain ⟨lx44, ux44, hx44⟩ := ap hx44
   exact bW (aX (u := iV x44.Age) 0 rfl ai rfl hx44 dv (fun _ _ _ h => by obtain ⟨_, _, _, _, _, _, e, _⟩ := h; rw [e]; rfl)) (aJ hc43 rfl) (aD rfl (ac _))
  refine ae rfl ?_ ?_
  ·cases c43
   ·exact fm (eV hc43 rfl) (aD rfl (ac _))
   obtain ⟨hx44, hv43⟩ := hs43 rfl
   obtain ⟨lx44, ux44, hx44⟩ := ap hx44
   exact bW (oa 0 rfl ai rfl (bU lx44 ux44) xe) (aJ hc43 rfl) (aD rfl (ac _))
  refine ae rfl ?_ ?_
  ·cases c43
   ·exact fm (eV hc43 rfl) (aD rfl (ac _))
   obtain ⟨hx44, hv43⟩ := hs43 rfl
   obtain ⟨lx44, ux44, hx44⟩ := ap hx44
   exact bW (aC 0 rfl ai rfl rfl Try.underlying22 bq lx44 ux44) (aJ hc43 rfl) (aD rfl (ac _))
  refine ae rfl ?_ ?_
  ·cases c43
   ·exact fm (eV hc43 rfl) (aD rfl (ac _))
   obtain ⟨hx44, hv43⟩ := hs43 rfl
   exact bW (bd 4 rfl rfl fD rfl) (aJ hc43 rfl) (aD rfl (ac _))
  refine ae rfl ?_ ?_
  ·cases c43
   ·exact fm (eV hc43 rfl) (aD rfl (ac _))
   obtain ⟨hx44, hv43⟩ := hs43 rfl
   exact bj (kY rfl oP) (aJ hc43 rfl) (aD rfl (ac _))
  refine ae rfl ?_ ?_
  ·exact bj (aI rfl) rfl (aD rfl (ac _))
  refine ae rfl ?_ ?_
  ·cases c42
   ·exact bj (dn hc42 rfl rfl) rfl (aD (by rw [ho42 rfl]) (ac _))
   have hv42 := hs42 rfl
   exact bj (dm hc42 rfl rfl) rfl (aD (by rw [hv42]) (ac _))
  refine ae rfl ?_ ?_
  ·cases c42
   ·exact fm (eV hc42 rfl) (aD rfl (ac _))
   have hv42 := hs42 rfl
   exact bj (oR rfl rfl) (aJ hc42 rfl) (aD rfl (ac _))
  refine ae rfl ?_ ?_
  ·cases c42
   ·exact fm (eV hc42 rfl) (aD rfl (ac _))
   have hv42 := hs42 rfl
   exact bW (az 0 rfl ai rfl Try.underlying22) (aJ hc42 rfl) (aD rfl (ac _))
  refine ae rfl ?_ ?_
  ·cases c42
   ·exact fm (eV hc42 rfl) (aD rfl (ac _))
   have hv42 := hs42 rfl
   exact bW (bd 4 rfl rfl fD rfl) (aJ hc42 rfl) (aD rfl (ac _))
  refine ae rfl ?_ ?_
  ·cases c42
   ·exact fm (eV hc42 rfl) (aD rfl (ac _))
   have hv42 := hs42 rfl
   exact bj (kY rfl oP) (aJ hc42 rfl) (aD rfl (ac _))
  refine ae rfl ?_ ?_
  ·exact bj (aI rfl) rfl (aD rfl (ac _))
  refine ae rfl ?_ ?_
  ·exact bj (oR rfl rfl) rfl (aD rfl (ac _))
  refine ae rfl ?_ ?_
  ·exact bj (aI rfl) rfl (aD rfl (ac _))
  exact db
 refine jN (t := [(76, .bool b60), (0, .bool false), (3, pV B41 0), (4, .slice A36 n36 c36), (5, .slice A38 n38 c38), (6, iV y13.2.2.2)]) (L' := [aR A32 n32 c32 y13.1.Young, aR A33 n33 c33 y13.1.Old, aF A36 n36 c36 y13.2.1, aF A38 n38 c38 y13.2.2.1, aq B41 24 [.slice A32 n32 c32, .slice A33 n33 c33], aq B5 42 [iV 1, iV 0, iV 0, iV 1, .slice A4 n4 c4, .slice none 0 0], aF A4 n4 c4 ([(⟨1, 0, ⟨#[]⟩⟩ : DValue)] : List DValue), aq B3 42 [iV 1, iV 0, iV 0, iV 0, .slice A2 n2 c2, .slice none 0 0], aF A2 n2 c2 ([(⟨1, 0, ⟨#[]⟩⟩ : DValue), y1] : List DValue)]) ?_ gX (ac _)
 refine oZ 50 rfl (by kernel_rfl) (bP rfl) rfl rfl rfl ?_
 refine gM (by kernel_rfl) ?_
 refine run ?_
 obtain rfl := ak h
 exact aB rfl rfl (ab [] 9 rfl rfl) ⟨rfl, rfl⟩
theorem qG {r : Bool} : ∀ v post, ((fun (u : Value) (post : List Chunk) => u = .bool r ∧ post = [])) v post → ∀ c ∈ post, bX c := by
 rintro _ _ ⟨rfl, rfl⟩; exact aj
def qF (N : Nat) (p3 : (List DCell)) : Option (List DCell) :=
 some p3
def w20_few_l4 (N : Nat) (a0 : (List DCell)) : Nat → (List DCell) → Int → Option (List DCell)
 | 0, _, _ => none
 | m4 + 1, p5, p6 => (bif decide (p6 < (a0.length : Int)) then (some (decide (p6 < 40))) else (some false)).bind fun b8 => bif b8 then ((aH a0 p6).bind fun x10 => bD ((0 : Int) ≤ min (x10.Slots.length : Int) 20 ∧ 0 ≤ (min (x10.Slots.length : Int) 20).toNat ∧ (min (x10.Slots.length : Int) 20).toNat ≤ x10.Slots.length) (bD ((0 : Int) ≤ min (x10.More.length : Int) 40 ∧ 0 ≤ (min (x10.More.length : Int) 40).toNat ∧ (min (x10.More.length : Int) 40).toNat ≤ x10.More.length) (bD (cu (p5.length + ([(⟨x10.Kind, x10.Shape, x10.Flags, x10.Age, (x10.Slots.drop 0).take ((min (x10.Slots.length : Int) 20).toNat - 0), (x10.More.drop 0).take ((min (x10.More.length : Int) 40).toNat - 0)⟩ : DCell)] : List DCell).length)) (bD (aK (p6 + 1)) ((w20_few_l4 N a0 m4) (p5 ++ ([(⟨x10.Kind, x10.Shape, x10.Flags, x10.Age, (x10.Slots.drop 0).take ((min (x10.Slots.length : Int) 20).toNat - 0), (x10.More.drop 0).take ((min (x10.More.length : Int) 40).toNat - 0)⟩ : DCell)] : List DCell)) (p6 + 1)))))) else (qF N p5)
def kg (N : Nat) (a0 : (List DCell)) : Option (List DCell) :=
 w20_few_l4 N a0 N [] 0
theorem qE {N : Nat} {a0 : (List DCell)} {r : (List DCell)} (h : kg N a0 = some r) : Okc Try.prog 30 [.slice A1 n1 c1] ([aR A1 n1 c1 a0]) (fun u post => ∃ A0 n0 c0, u = .slice A0 n0 c0 ∧ post = [f4 A0 n0 c0 r]) := by
 refine bz Try.func30 rfl rfl ?_
 simp only [aQ]
 refine run ?_
 refine aL (fun s L => ∃ p3 A3 n3 c3, qF N p3 = some r ∧ s = [(2, .slice none 0 0), (3, .slice A3 n3 c3)] ∧ L = [f4 A3 n3 c3 p3]) ?_ ?_
 ·refine run ?_
  refine bc (fun m s L => ∃ p5 p6 A5 n5 c5, w20_few_l4 N a0 m p5 p6 = some r ∧ s = [(0, .slice A1 n1 c1), (2, .slice none 0 0), (3, .slice A5 n5 c5), (4, iV p6)] ∧ L = [aR A1 n1 c1 a0, f4 A5 n5 c5 p5]) N _ _ ⟨[], 0, none, 0, 0, h, rfl, rfl⟩ sA ((cz dl 42 _).trans (ab [1, 0] 2 rfl rfl)) ?_
  rintro (_ | m4) _ _ ⟨p5, p6, A5, n5, c5, h, rfl, rfl⟩
  ·exact aA h
  rw [w20_few_l4.eq_2] at h
  refine av ?_
  refine run ?_
  refine gR (az 0 rfl ai rfl Try.underlying22) ?_
  refine run ?_
  obtain ⟨b8, hb8, h⟩ := aa h
  refine aw 3 13 b8 ?_ ?_
  ·clear h
   refine ax 10 rfl (fun g8 => ?_) (fun g8 => ?_)
   ·have h := ag g8 hb8
    refine run ?_
    obtain rfl := ak h
    exact ad sA (ab [0, 1] 2 rfl rfl)
   have h := ah g8 hb8
   refine run ?_
   obtain rfl := ak h
   exact ad sA (ab [0, 1] 2 rfl rfl)
  refine run ?_
  refine ar rfl (fun g9 => ?_) (fun g9 => ?_)
  ·replace h := ag g9 h
   refine run ?_
   refine av ?_
   refine run ?_
   obtain ⟨x10, hx10, h⟩ := aa h
   obtain ⟨lx10, ux10, hx10⟩ := ap hx10
   refine gR (aC 0 rfl ai rfl rfl Try.underlying22 bq lx10 ux10) ?_
   refine rM 0 rfl hx10 (cE x10) ?_
   rintro _ _ ⟨A11, n11, c11, A12, n12, c12, rfl, rfl⟩
   refine gR (gc (us := [iV x10.Kind, iV x10.Shape, iV x10.Flags, iV x10.Age, .slice A11 n11 c11, .slice A12 n12 c12]) 0 rfl rfl ba rfl) ?_
   refine gD (aS ed rfl) ?_
   rintro _ _ ⟨B14, rfl, rfl⟩
   refine gO (ay (us := [iV x10.Kind, iV x10.Shape, iV x10.Flags, iV x10.Age, .slice A11 n11 c11, .slice A12 n12 c12]) (cs' := [iV x10.Kind, iV x10.Shape, iV x10.Flags, iV x10.Age, .slice A11 n11 c11, .slice A12 n12 c12]) 0 rfl rfl rfl rfl bq rfl rfl rfl) ?_
   rintro _ _ rfl
   refine run ?_
   refine av ?_
   obtain ⟨q15, h⟩ := ao h
   obtain ⟨q18, h⟩ := ao h
   refine fb (t := [(0, .slice A1 n1 c1), (2, .slice none 0 0), (3, .slice A5 n5 c5), (4, iV p6), (5, pV B14 0)]) ?_ gX (ac _)
   refine fo (by kernel_rfl) 14 [11, 12, 13] [6, 13] [20, 21, 22, 23, 24, 25, 26, 27, 28, 29, 30, 31, 32, 33] [[], [0], [], [2], [3], [4], [1, 5], [], [7], [], [9], [10], [11], [8, 12]] [aV (pV B14 4),
 aV (.slice A11 n11 c11),
 aV (pV B14 4),
 aV (.slice A11 n11 c11),
 aV (iV (x10.Slots.length : Int)),
 aV (iV (min (x10.Slots.length : Int) 20)),
 aX3 (fun (A17 : Option Addr) (n17 c17 : Nat) => .slice A17 n17 c17) (fun A17 n17 c17 => [aF A17 n17 c17 ((x10.Slots.drop 0).take ((min (x10.Slots.length : Int) 20).toNat - 0))]),
 aV (pV B14 5),
 aV (.slice A12 n12 c12),
 aV (pV B14 5),
 aV (.slice A12 n12 c12),
 aV (iV (x10.More.length : Int)),
 aV (iV (min (x10.More.length : Int) 40)),
 aX3 (fun (A20 : Option Addr) (n20 c20 : Nat) => .slice A20 n20 c20) (fun A20 n20 c20 => [aF A20 n20 c20 ((x10.More.drop 0).take ((min (x10.More.length : Int) 40).toNat - 0))])] [] (ac _) (eJ rfl (eJ rfl (eJ rfl gH))) (by kernel_rfl) rfl rfl ?_ ?_ ?_
   ·refine eI rfl ?_ ?_
    ·exact xB (yP 3 rfl ai rfl Try.underlying25) rfl (aD rfl (ac _))
    refine eI rfl ?_ ?_
    ·exact nn (pA rfl rfl Try.underlying3 Try.underlying3) rfl (aD rfl (ac _))
    refine eI rfl ?_ ?_
    ·refine Ae 3 rfl (l := 0) (h := (min (x10.More.length : Int) 40).toNat) q18.2.1 q18.2.2 ?_
     rintro A19 n19 c19 e19
     exact xB (yQ 4 rfl e19 rfl Try.underlying25 aG rfl rfl (by rw [Int.toNat_of_nonneg q18.1]; rfl) q18.2.1 q18.2.2) rfl (ig A19 n19 c19 (ac _))
    exact gG
   ·refine ae rfl ?_ ?_
    ·refine Ad 3 rfl (l := 0) (h := (min (x10.More.length : Int) 40).toNat) q18.2.1 q18.2.2 ?_
     rintro A19 n19 c19 e19
     exact bW (vN 4 rfl e19 rfl Try.underlying25 aG rfl rfl (by rw [Int.toNat_of_nonneg q18.1]; rfl) q18.2.1 q18.2.2) rfl (ig A19 n19 c19 (ac _))
    refine ae rfl ?_ ?_
    ·exact bj (pA rfl rfl Try.underlying3 Try.underlying3) rfl (aD rfl (ac _))
    refine ae rfl ?_ ?_
    ·exact bW (az 3 rfl ai rfl Try.underlying25) rfl (aD rfl (ac _))
    refine ae rfl ?_ ?_
    ·exact bW (bd 0 rfl rfl ft rfl) rfl (aD rfl (ac _))
    refine ae rfl ?_ ?_
    ·exact bj (cK rfl gt) rfl (aD rfl (ac _))
    refine ae rfl ?_ ?_
    ·exact bW (bd 0 rfl rfl ft rfl) rfl (aD rfl (ac _))
    refine ae rfl ?_ ?_
    ·exact bj (cK rfl gt) rfl (aD rfl (ac _))
    refine ae rfl ?_ ?_
    ·refine Ad 2 rfl (l := 0) (h := (min (x10.Slots.length : Int) 20).toNat) q15.2.1 q15.2.2 ?_
     rintro A16 n16 c16 e16
     exact bW (vN 3 rfl e16 rfl Try.underlying25 aG rfl rfl (by rw [Int.toNat_of_nonneg q15.1]; rfl) q15.2.1 q15.2.2) rfl (ig A16 n16 c16 (ac _))
    refine ae rfl ?_ ?_
    ·exact bj (pA rfl rfl Try.underlying3 Try.underlying3) rfl (aD rfl (ac _))
    refine ae rfl ?_ ?_
    ·exact bW (az 2 rfl ai rfl Try.underlying25) rfl (aD rfl (ac _))
    refine ae rfl ?_ ?_
    ·exact bW (bd 0 rfl rfl ft rfl) rfl (aD rfl (ac _))
    refine ae rfl ?_ ?_
    ·exact bj (cK rfl kV) rfl (aD rfl (ac _))
    refine ae rfl ?_ ?_
    ·exact bW (bd 0 rfl rfl ft rfl) rfl (aD rfl (ac _))
    refine ae rfl ?_ ?_
    ·exact bj (cK rfl kV) rfl (aD rfl (ac _))
    exact db
   intro A17 n17 c17 A20 n20 c20
   refine jN (t := [(26, .slice A17 n17 c17), (33, .slice A20 n20 c20), (0, .slice A1 n1 c1), (2, .slice none 0 0), (3, .slice A5 n5 c5), (4, iV p6), (5, pV B14 0)]) (L' := [aF A17 n17 c17 ((x10.Slots.drop 0).take ((min (x10.Slots.length : Int) 20).toNat - 0)), aF A20 n20 c20 ((x10.More.drop 0).take ((min (x10.More.length : Int) 40).toNat - 0)), aq B14 42 [iV x10.Kind, iV x10.Shape, iV x10.Flags, iV x10.Age, .slice A11 n11 c11, .slice A12 n12 c12], ki (bK (.slice A1 n1 c1) p6.toNat 6 0) [iV x10.Kind, iV x10.Shape, iV x10.Flags, iV x10.Age, .slice A11 n11 c11, .slice A12 n12 c12], aF A11 n11 c11 x10.Slots, aF A12 n12 c12 x10.More, aR A1 n1 c1 a0, f4 A5 n5 c5 p5]) ?_ gX (ac _)
   refine oZ 14 rfl (by kernel_rfl) (cK rfl kV) rfl rfl rfl ?_
   refine mq 15 rfl (by kernel_rfl) (ay (us := [.slice A17 n17 c17]) (cs' := [iV x10.Kind, iV x10.Shape, iV x10.Flags, iV x10.Age, .slice A17 n17 c17, .slice A12 n12 c12]) 2 rfl rfl rfl rfl ip rfl rfl rfl) rfl rfl ?_
   rintro _ _ rfl
   refine oZ 16 rfl (by kernel_rfl) (cK rfl gt) rfl rfl rfl ?_
   refine mq 17 rfl (by kernel_rfl) (ay (us := [.slice A20 n20 c20]) (cs' := [iV x10.Kind, iV x10.Shape, iV x10.Flags, iV x10.Age, .slice A17 n17 c17, .slice A20 n20 c20]) 2 rfl rfl rfl rfl ip rfl rfl rfl) rfl rfl ?_
   rintro _ _ rfl
   refine uf ([aF A17 n17 c17 ((x10.Slots.drop 0).take ((min (x10.Slots.length : Int) 20).toNat - 0)), aF A20 n20 c20 ((x10.More.drop 0).take ((min (x10.More.length : Int) 40).toNat - 0)), aq B14 42 [iV x10.Kind, iV x10.Shape, iV x10.Flags, iV x10.Age, .slice A17 n17 c17, .slice A20 n20 c20], ki (bK (.slice A1 n1 c1) p6.toNat 6 0) [iV x10.Kind, iV x10.Shape, iV x10.Flags, iV x10.Age, .slice A11 n11 c11, .slice A12 n12 c12], aF A11 n11 c11 x10.Slots, aF A12 n12 c12 x10.More, aR A1 n1 c1 a0, f4 A5 n5 c5 p5]) rfl ?_
   refine gM (by kernel_rfl) ?_
   refine run ?_
   refine gR (aE (us := [iV x10.Kind, iV x10.Shape, iV x10.Flags, iV x10.Age, .slice A17 n17 c17, .slice A20 n20 c20]) 2 rfl rfl ba rfl) ?_
   refine gD (bB (R := dl) (vss := [[iV x10.Kind, iV x10.Shape, iV x10.Flags, iV x10.Age, .slice A17 n17 c17, .slice A20 n20 c20]]) (xs := [(⟨x10.Kind, x10.Shape, x10.Flags, x10.Age, (x10.Slots.drop 0).take ((min (x10.Slots.length : Int) 20).toNat - 0), (x10.More.drop 0).take ((min (x10.More.length : Int) 40).toNat - 0)⟩ : DCell)]) rfl (oX _ _ _ _ _ _ _ _ _ _) rfl rfl (fun _ _ hr => .cons (⟨_, _, _, _, _, _, rfl, hr 0 _ rfl rfl, hr 1 _ rfl rfl⟩) All2.nil)) ?_
   rintro _ _ ⟨A21, n21, c21, rfl, rfl⟩
   obtain ⟨q22, h⟩ := ao h
   refine gD (bm 8 0 rfl rfl aM rfl rfl Try.underlying22 vy rfl rfl q22) ?_
   rintro _ _ ⟨A23, n23, c23, rfl, rfl⟩
   refine run ?_
   obtain ⟨q24, h⟩ := ao h
   refine gE (aN rfl rfl q24.1 q24.2) ?_
   refine run ?_
   exact ⟨m4, _, _, Nat.lt_succ_self _, ⟨p5 ++ ([(⟨x10.Kind, x10.Shape, x10.Flags, x10.Age, (x10.Slots.drop 0).take ((min (x10.Slots.length : Int) 20).toNat - 0), (x10.More.drop 0).take ((min (x10.More.length : Int) 40).toNat - 0)⟩ : DCell)] : List DCell), p6 + 1, A23, n23, c23, h, rfl, rfl⟩, sA, ab [7, 8] 9 rfl rfl⟩
  replace h := ah g9 h
  refine run ?_
  exact ⟨_, _, ⟨p5, A5, n5, c5, h, rfl, rfl⟩, sA, ab [1] 2 rfl rfl⟩
 rintro _ _ ⟨p3, A3, n3, c3, h, rfl, rfl⟩
 refine run ?_
 obtain rfl := ak h
 exact aB rfl rfl (ab [0] 1 rfl rfl) ⟨_, _, _, rfl, rfl⟩
def my (N : Nat) (a0 : DMemory) : Option DMemory :=
 (kg N a0.Young).bind fun y5 => (kg N a0.Old).bind fun y7 => some (⟨y5, y7⟩ : DMemory)
theorem vC {N : Nat} {a0 : DMemory} {r : DMemory} (h : my N a0 = some r) : Okc Try.prog 8 [.agg #[.slice A1 n1 c1, .slice A2 n2 c2]] ([aR A1 n1 c1 a0.Young, aR A2 n2 c2 a0.Old]) (fun u post => ∃ A0 n0 c0 A1 n1 c1, u = .agg #[.slice A0 n0 c0, .slice A1 n1 c1] ∧ post = [f4 A0 n0 c0 r.Young, f4 A1 n1 c1 r.Old]) := by
 refine bz Try.func8 rfl rfl ?_
 simp only [aQ]
 refine run ?_
 refine gD (aU rfl rfl) ?_
 rintro _ _ ⟨B3, rfl, rfl⟩
 refine gD (aS qz rfl) ?_
 rintro _ _ ⟨B4, rfl, rfl⟩
 refine run ?_
 refine av ?_
 refine dY (by kernel_rfl) ([aq B3 24 [.slice A1 n1 c1, .slice A2 n2 c2], aR A1 n1 c1 a0.Young, aR A2 n2 c2 a0.Old]) (ab [1, 2, 3] 4 rfl rfl) ?_
 refine aW 0 rfl (by kernel_rfl) (kY rfl oP) rfl rfl ?_
 refine bL 1 rfl (by kernel_rfl) (bd 0 rfl rfl fD rfl) rfl rfl ?_
 refine aW 3 rfl (by kernel_rfl) (cK rfl jK) rfl rfl ?_
 refine bL 4 rfl (by kernel_rfl) (bd 0 rfl rfl fD rfl) rfl rfl ?_
 obtain ⟨y5, hy5, h⟩ := aa h
 refine ea 2 rfl (by kernel_rfl) (cg (qE hy5) zT rfl (bO [2] [] [0, 1, 2, 3] 4 rfl)) rfl rfl rfl ?_
 rintro _ _ ⟨_, ⟨A6, n6, c6, rfl, rfl⟩, rfl⟩
 refine ⟨[aq B3 24 [.slice A1 n1 c1, .slice A2 n2 c2], aR A1 n1 c1 a0.Young, aR A2 n2 c2 a0.Old], ab [2, 3, 4] 5 rfl rfl, ac _, ?_⟩
 refine iR ([f4 A6 n6 c6 y5, aq B4 24 [.slice none 0 0, .slice none 0 0], aq B3 24 [.slice A1 n1 c1, .slice A2 n2 c2], aR A1 n1 c1 a0.Young, aR A2 n2 c2 a0.Old]) rfl ?_
 obtain ⟨y7, hy7, h⟩ := aa h
 refine ea 5 rfl (by kernel_rfl) (cg (qE hy7) zT rfl (bO [4] [] [0, 1, 2, 3, 4] 5 rfl)) rfl rfl rfl ?_
 rintro _ _ ⟨_, ⟨A8, n8, c8, rfl, rfl⟩, rfl⟩
 refine ⟨[aq B3 24 [.slice A1 n1 c1, .slice A2 n2 c2], aR A1 n1 c1 a0.Young, aR A2 n2 c2 a0.Old], ab [3, 4, 5] 6 rfl rfl, ac _, ?_⟩
 refine iR ([f4 A8 n8 c8 y7, f4 A6 n6 c6 y5, aq B4 24 [.slice none 0 0, .slice none 0 0], aq B3 24 [.slice A1 n1 c1, .slice A2 n2 c2], aR A1 n1 c1 a0.Young, aR A2 n2 c2 a0.Old]) rfl ?_
 refine aW 6 rfl (by kernel_rfl) (dJ rfl (wD _ _ _ _ _ _)) rfl rfl ?_
 refine ud 7 rfl (by kernel_rfl) (ay (us := [.slice A6 n6 c6, .slice A8 n8 c8]) (cs' := [.slice A6 n6 c6, .slice A8 n8 c8]) 2 rfl rfl rfl rfl lF rfl rfl rfl) rfl rfl ?_
 rintro _ _ rfl
 refine ⟨[aq B3 24 [.slice A1 n1 c1, .slice A2 n2 c2], aR A1 n1 c1 a0.Young, aR A2 n2 c2 a0.Old], ab [3, 4, 5] 6 rfl rfl, ac _, ?_⟩
 refine iR ([f4 A8 n8 c8 y7, f4 A6 n6 c6 y5, aq B4 24 [.slice A6 n6 c6, .slice A8 n8 c8], aq B3 24 [.slice A1 n1 c1, .slice A2 n2 c2], aR A1 n1 c1 a0.Young, aR A2 n2 c2 a0.Old]) rfl ?_
 refine dX (by kernel_rfl) ?_
 refine run ?_
 obtain rfl := ak h
 exact eX (rs := [.cell 2 24]) (vs := [.agg #[.slice A6 n6 c6, .slice A8 n8 c8]]) rfl (.cons (dD 2 rfl rfl ex) .nil) rfl (ab [1, 0] 6 rfl rfl) ⟨_, _, _, _, _, _, rfl, rfl⟩
def iU (N : Nat) (a0 : DValue) : Option Bool :=
 (bif decide (a0.Kind = 7) then (some true) else (some (decide (a0.Kind = 9)))).bind fun b2 => some b2
theorem nA {N : Nat} {a0 : DValue} {r : Bool} (h : iU N a0 = some r) : Okc Try.prog 49 [.agg #[iV a0.Kind, iV a0.N, .string a0.S]] ([]) (fun u post => u = .bool r ∧ post = []) := by
 refine bz Try.func49 rfl rfl ?_
 simp only [aQ]
 refine run ?_
 refine gD (aU rfl rfl) ?_
 rintro _ _ ⟨B1, rfl, rfl⟩
 refine run ?_
 obtain ⟨b2, hb2, h⟩ := aa h
 refine aw 4 10 b2 ?_ ?_
 ·clear h
  refine ax 6 rfl (fun g2 => ?_) (fun g2 => ?_)
  ·have h := ag g2 hb2
   refine run ?_
   obtain rfl := ak h
   exact ad sA (ab [0] 1 rfl rfl)
  have h := ah g2 hb2
  refine run ?_
  obtain rfl := ak h
  exact ad sA (ab [0] 1 rfl rfl)
 refine run ?_
 obtain rfl := ak h
 exact aB rfl rfl (ab [] 1 rfl rfl) ⟨rfl, rfl⟩
theorem kL {r : Bool} : ∀ v post, ((fun (u : Value) (post : List Chunk) => u = .bool r ∧ post = [])) v post → ∀ c ∈ post, bX c := by
 rintro _ _ ⟨rfl, rfl⟩; exact aj
def jd (N : Nat) (a0 : Int) (a1 : Int) : Option Bool :=
 (bif decide (a0 = 8) then (some true) else ((bif decide (a0 = 10) then (some (decide (0 < a1))) else (some false)).bind fun b2 => (bif b2 then (bD (aK (a1 - 1)) (some (decide (((a1 - 1).tmod 4).tmod 2 = 0)))) else (some false)).bind fun b3 => some b3)).bind fun b1 => some b1
theorem pP {N : Nat} {a0 : Int} {a1 : Int} {r : Bool} (h : jd N a0 a1 = some r) : Okc Try.prog 50 [iV a0, iV a1] ([]) (fun u post => u = .bool r ∧ post = []) := by
 refine bz Try.func50 rfl rfl ?_
 simp only [aQ]
 refine run ?_
 obtain ⟨b1, hb1, h⟩ := aa h
 refine aw 14 21 b1 ?_ ?_
 ·clear h
  refine ax 7 rfl (fun g1 => ?_) (fun g1 => ?_)
  ·have h := ag g1 hb1
   refine run ?_
   obtain rfl := ak h
   exact ad sA (ab [] 0 rfl rfl)
  have h := ah g1 hb1
  refine run ?_
  obtain ⟨b2, hb2, h⟩ := aa h
  refine aw 3 13 b2 ?_ ?_
  ·clear h
   refine ax 10 rfl (fun g2 => ?_) (fun g2 => ?_)
   ·have h := ag g2 hb2
    refine run ?_
    obtain rfl := ak h
    exact ad sA (ab [] 0 rfl rfl)
   have h := ah g2 hb2
   refine run ?_
   obtain rfl := ak h
   exact ad sA (ab [] 0 rfl rfl)
  refine run ?_
  obtain ⟨b3, hb3, h⟩ := aa h
  refine aw 6 20 b3 ?_ ?_
  ·clear h
   refine ax 14 rfl (fun g3 => ?_) (fun g3 => ?_)
   ·have h := ag g3 hb3
    refine run ?_
    obtain ⟨q4, h⟩ := ao h
    refine kc (jV rfl rfl q4.1 q4.2) rfl (aJ g3 rfl) rfl ?_
    refine kc (mg rfl rfl (by decide)) rfl (aJ g3 rfl) rfl ?_
    refine kc (mg rfl rfl (by decide)) rfl (aJ g3 rfl) rfl ?_
    refine run ?_
    obtain rfl := ak h
    exact ad sA (ab [] 0 rfl rfl)
   have h := ah g3 hb3
   refine run ?_
   obtain rfl := ak h
   exact ad sA (ab [] 0 rfl rfl)
  refine run ?_
  obtain rfl := ak h
  exact ad sA (ab [] 0 rfl rfl)
 refine run ?_
 obtain rfl := ak h
 exact aB rfl rfl (ab [] 0 rfl rfl) ⟨rfl, rfl⟩
theorem ne {r : Bool} : ∀ v post, ((fun (u : Value) (post : List Chunk) => u = .bool r ∧ post = [])) v post → ∀ c ∈ post, bX c := by
 rintro _ _ ⟨rfl, rfl⟩; exact aj
def ni (N : Nat) (p22 : (List Int)) : Option (List Int) :=
 some p22
def fB (N : Nat) (kb23 : (List Int) → Int → Option (List Int)) (p25 : Int) (a0 : DCell) (p28 : (List Int)) : Option (List Int) :=
 bD (aK (p25 + 1)) (kb23 p28 (p25 + 1))
def r15_Leads_l23 (N : Nat) (a0 : DCell) : Nat → (List Int) → Int → Option (List Int)
 | 0, _, _ => none
 | m23 + 1, p24, p25 => bif decide (p25 < (a0.More.length : Int)) then ((aH a0.More p25).bind fun x29 => (iU N x29).bind fun y30 => (bif y30 then ((jd N a0.Kind p25).bind fun y32 => some (!y32)) else (some false)).bind fun b31 => bif b31 then ((aH a0.More p25).bind fun x34 => bD (cu (p24.length + ([x34.N] : List Int).length)) (fB N (r15_Leads_l23 N a0 m23) p25 a0 (p24 ++ ([x34.N] : List Int)))) else (fB N (r15_Leads_l23 N a0 m23) p25 a0 p24)) else (ni N p24)
def kM (N : Nat) (a0 : DCell) (p5 : (List Int)) : Option (List Int) :=
 r15_Leads_l23 N a0 N p5 0
def fC (N : Nat) (kb6 : (List Int) → Int → Option (List Int)) (p8 : Int) (a0 : DCell) (p12 : (List Int)) : Option (List Int) :=
 bD (aK (p8 + 1)) (kb6 p12 (p8 + 1))
def r15_Leads_l6 (N : Nat) (a0 : DCell) : Nat → (List Int) → Int → Option (List Int)
 | 0, _, _ => none
 | m6 + 1, p7, p8 => bif decide (p8 < (a0.Slots.length : Int)) then ((aH a0.Slots p8).bind fun x13 => (iU N x13).bind fun y14 => bif y14 then ((aH a0.Slots p8).bind fun x16 => bD (cu (p7.length + ([x16.N] : List Int).length)) (fC N (r15_Leads_l6 N a0 m6) p8 a0 (p7 ++ ([x16.N] : List Int)))) else (fC N (r15_Leads_l6 N a0 m6) p8 a0 p7)) else (kM N a0 p7)
def eR (N : Nat) (a0 : DCell) : Option (List Int) :=
 r15_Leads_l6 N a0 N [] 0
theorem oq {N : Nat} {a0 : DCell} {r : (List Int)} (h : eR N a0 = some r) : Okc Try.prog 20 [.agg #[iV a0.Kind, iV a0.Shape, iV a0.Flags, iV a0.Age, .slice A1 n1 c1, .slice A2 n2 c2]] ([aF A1 n1 c1 a0.Slots, aF A2 n2 c2 a0.More]) (fun u post => ∃ A0 n0 c0, u = .slice A0 n0 c0 ∧ post = [bN A0 n0 c0 r]) := by
 refine bz Try.func20 rfl rfl ?_
 simp only [aQ]
 refine run ?_
 refine gD (aU rfl rfl) ?_
 rintro _ _ ⟨B3, rfl, rfl⟩
 refine run ?_
 refine aL (fun s L => ∃ p5 A5 n5 c5, kM N a0 p5 = some r ∧ s = [(1, pV B3 0), (2, .slice none 0 0), (3, .slice A5 n5 c5)] ∧ L = [bN A5 n5 c5 p5, aF A1 n1 c1 a0.Slots, aF A2 n2 c2 a0.More, aq B3 42 [iV a0.Kind, iV a0.Shape, iV a0.Flags, iV a0.Age, .slice A1 n1 c1, .slice A2 n2 c2]]) ?_ ?_
 ·refine run ?_
  refine bc (fun m s L => ∃ p7 p8 A7 n7 c7, r15_Leads_l6 N a0 m p7 p8 = some r ∧ s = [(1, pV B3 0), (2, .slice none 0 0), (3, .slice A7 n7 c7), (4, iV p8)] ∧ L = [bN A7 n7 c7 p7, aF A1 n1 c1 a0.Slots, aF A2 n2 c2 a0.More, aq B3 42 [iV a0.Kind, iV a0.Shape, iV a0.Flags, iV a0.Age, .slice A1 n1 c1, .slice A2 n2 c2]]) N _ _ ⟨[], 0, none, 0, 0, h, rfl, rfl⟩ sA ((cz (ge .i64) 3 _).trans (ab [0, 2, 3, 1] 4 rfl rfl)) ?_
  rintro (_ | m6) _ _ ⟨p7, p8, A7, n7, c7, h, rfl, rfl⟩
  ·exact aA h
  rw [r15_Leads_l6.eq_2] at h
  refine av ?_
  refine run ?_
  refine gR (az 1 rfl ai rfl Try.underlying25) ?_
  refine run ?_
  refine ar rfl (fun g10 => ?_) (fun g10 => ?_)
  ·replace h := ag g10 h
   refine run ?_
   refine aL (fun s L => ∃ p12 A12 n12 c12, fC N (r15_Leads_l6 N a0 m6) p8 a0 p12 = some r ∧ s = [(1, pV B3 0), (2, .slice none 0 0), (3, .slice A12 n12 c12), (4, iV p8)] ∧ L = [bN A12 n12 c12 p12, aF A1 n1 c1 a0.Slots, aF A2 n2 c2 a0.More, aq B3 42 [iV a0.Kind, iV a0.Shape, iV a0.Flags, iV a0.Age, .slice A1 n1 c1, .slice A2 n2 c2]]) ?_ ?_
   ·refine run ?_
    obtain ⟨x13, hx13, h⟩ := aa h
    obtain ⟨lx13, ux13, hx13⟩ := ap hx13
    refine gR (aC 1 rfl ai rfl rfl Try.underlying25 aG lx13 ux13) ?_
    refine gR (aO (us := [iV x13.Kind, iV x13.N, .string x13.S]) 1 rfl ai rfl hx13 bp (fun _ _ _ h => by rw [show _ = _ from h]; rfl)) ?_
    obtain ⟨y14, hy14, h⟩ := aa h
    refine gD (al (nA hy14) ww rfl (aj) kL) ?_
    rintro _ _ ⟨_, ⟨rfl, rfl⟩, rfl⟩
    refine run ?_
    refine ar rfl (fun g15 => ?_) (fun g15 => ?_)
    ·replace h := ag g15 h
     refine run ?_
     obtain ⟨x16, hx16, h⟩ := aa h
     obtain ⟨lx16, ux16, hx16⟩ := ap hx16
     refine gR (aC 1 rfl ai rfl rfl Try.underlying25 aG lx16 ux16) ?_
     refine gR (oa 1 rfl ai rfl (bU lx16 ux16) iP) ?_
     refine gR (aX (u := iV x16.N) 1 rfl ai rfl hx16 dv (fun _ _ _ h => by rw [show _ = _ from h]; rfl)) ?_
     refine gD (bB (R := (ge .i64)) (vss := [[iV x16.N]]) (xs := [x16.N]) rfl (fa _) rfl rfl (fun _ _ hr => .cons rfl All2.nil)) ?_
     rintro _ _ ⟨A17, n17, c17, rfl, rfl⟩
     obtain ⟨q18, h⟩ := ao h
     refine gD (bm 1 0 rfl rfl aM rfl rfl Try.underlying31 ui rfl rfl q18) ?_
     rintro _ _ ⟨A19, n19, c19, rfl, rfl⟩
     refine run ?_
     exact ⟨_, _, ⟨p7 ++ ([x16.N] : List Int), A19, n19, c19, h, rfl, rfl⟩, sA, ab [1, 2, 3, 4] 5 rfl rfl⟩
    replace h := ah g15 h
    refine run ?_
    exact ⟨_, _, ⟨p7, A7, n7, c7, h, rfl, rfl⟩, sA, ab [0, 1, 2, 3] 4 rfl rfl⟩
   rintro _ _ ⟨p12, A12, n12, c12, h, rfl, rfl⟩
   refine run ?_
   obtain ⟨q20, h⟩ := ao h
   refine gE (aN rfl rfl q20.1 q20.2) ?_
   refine run ?_
   exact ⟨m6, _, _, Nat.lt_succ_self _, ⟨p12, p8 + 1, A12, n12, c12, h, rfl, rfl⟩, sA, ab [0, 1, 2, 3] 4 rfl rfl⟩
  replace h := ah g10 h
  refine run ?_
  exact ⟨_, _, ⟨p7, A7, n7, c7, h, rfl, rfl⟩, sA, ab [0, 1, 2, 3] 4 rfl rfl⟩
 rintro _ _ ⟨p5, A5, n5, c5, h, rfl, rfl⟩
 refine aL (fun s L => ∃ p22 A22 n22 c22, ni N p22 = some r ∧ s = [(2, .slice none 0 0), (3, .slice A22 n22 c22)] ∧ L = [bN A22 n22 c22 p22]) ?_ ?_
 ·refine run ?_
  refine bc (fun m s L => ∃ p24 p25 A24 n24 c24, r15_Leads_l23 N a0 m p24 p25 = some r ∧ s = [(1, pV B3 0), (2, .slice none 0 0), (3, .slice A24 n24 c24), (5, iV p25)] ∧ L = [bN A24 n24 c24 p24, aF A1 n1 c1 a0.Slots, aF A2 n2 c2 a0.More, aq B3 42 [iV a0.Kind, iV a0.Shape, iV a0.Flags, iV a0.Age, .slice A1 n1 c1, .slice A2 n2 c2]]) N _ _ ⟨p5, 0, A5, n5, c5, h, rfl, rfl⟩ sA (ab [0, 1, 2, 3] 4 rfl rfl) ?_
  rintro (_ | m23) _ _ ⟨p24, p25, A24, n24, c24, h, rfl, rfl⟩
  ·exact aA h
  rw [r15_Leads_l23.eq_2] at h
  refine av ?_
  refine run ?_
  refine gR (az 2 rfl ai rfl Try.underlying25) ?_
  refine run ?_
  refine ar rfl (fun g26 => ?_) (fun g26 => ?_)
  ·replace h := ag g26 h
   refine run ?_
   refine aL (fun s L => ∃ p28 A28 n28 c28, fB N (r15_Leads_l23 N a0 m23) p25 a0 p28 = some r ∧ s = [(1, pV B3 0), (2, .slice none 0 0), (3, .slice A28 n28 c28), (5, iV p25)] ∧ L = [bN A28 n28 c28 p28, aF A1 n1 c1 a0.Slots, aF A2 n2 c2 a0.More, aq B3 42 [iV a0.Kind, iV a0.Shape, iV a0.Flags, iV a0.Age, .slice A1 n1 c1, .slice A2 n2 c2]]) ?_ ?_
   ·refine run ?_
    obtain ⟨x29, hx29, h⟩ := aa h
    obtain ⟨lx29, ux29, hx29⟩ := ap hx29
    refine gR (aC 2 rfl ai rfl rfl Try.underlying25 aG lx29 ux29) ?_
    refine gR (aO (us := [iV x29.Kind, iV x29.N, .string x29.S]) 2 rfl ai rfl hx29 bp (fun _ _ _ h => by rw [show _ = _ from h]; rfl)) ?_
    obtain ⟨y30, hy30, h⟩ := aa h
    refine gD (al (nA hy30) ww rfl (aj) kL) ?_
    rintro _ _ ⟨_, ⟨rfl, rfl⟩, rfl⟩
    refine run ?_
    obtain ⟨b31, hb31, h⟩ := aa h
    refine aw 6 47 b31 ?_ ?_
    ·clear h
     refine ax 41 rfl (fun g31 => ?_) (fun g31 => ?_)
     ·have h := ag g31 hb31
      refine run ?_
      obtain ⟨y32, hy32, h⟩ := aa h
      refine bM (al (pP hy32) zM rfl (aj) ne) rfl (aJ g31 rfl) rfl ?_
      rintro _ _ ⟨_, ⟨rfl, rfl⟩, rfl⟩
      refine run ?_
      obtain rfl := ak h
      exact ad sA (ab [0, 1, 2, 3] 4 rfl rfl)
     have h := ah g31 hb31
     refine run ?_
     obtain rfl := ak h
     exact ad sA (ab [0, 1, 2, 3] 4 rfl rfl)
    refine run ?_
    refine ar rfl (fun g33 => ?_) (fun g33 => ?_)
    ·replace h := ag g33 h
     refine run ?_
     obtain ⟨x34, hx34, h⟩ := aa h
     obtain ⟨lx34, ux34, hx34⟩ := ap hx34
     refine gR (aC 2 rfl ai rfl rfl Try.underlying25 aG lx34 ux34) ?_
     refine gR (oa 2 rfl ai rfl (bU lx34 ux34) iP) ?_
     refine gR (aX (u := iV x34.N) 2 rfl ai rfl hx34 dv (fun _ _ _ h => by rw [show _ = _ from h]; rfl)) ?_
     refine gD (bB (R := (ge .i64)) (vss := [[iV x34.N]]) (xs := [x34.N]) rfl (fa _) rfl rfl (fun _ _ hr => .cons rfl All2.nil)) ?_
     rintro _ _ ⟨A35, n35, c35, rfl, rfl⟩
     obtain ⟨q36, h⟩ := ao h
     refine gD (bm 1 0 rfl rfl aM rfl rfl Try.underlying31 ui rfl rfl q36) ?_
     rintro _ _ ⟨A37, n37, c37, rfl, rfl⟩
     refine run ?_
     exact ⟨_, _, ⟨p24 ++ ([x34.N] : List Int), A37, n37, c37, h, rfl, rfl⟩, sA, ab [1, 2, 3, 4] 5 rfl rfl⟩
    replace h := ah g33 h
    refine run ?_
    exact ⟨_, _, ⟨p24, A24, n24, c24, h, rfl, rfl⟩, sA, ab [0, 1, 2, 3] 4 rfl rfl⟩
   rintro _ _ ⟨p28, A28, n28, c28, h, rfl, rfl⟩
   refine run ?_
   obtain ⟨q38, h⟩ := ao h
   refine gE (aN rfl rfl q38.1 q38.2) ?_
   refine run ?_
   exact ⟨m23, _, _, Nat.lt_succ_self _, ⟨p28, p25 + 1, A28, n28, c28, h, rfl, rfl⟩, sA, ab [0, 1, 2, 3] 4 rfl rfl⟩
  replace h := ah g26 h
  refine run ?_
  exact ⟨_, _, ⟨p24, A24, n24, c24, h, rfl, rfl⟩, sA, ab [0] 4 rfl rfl⟩
 rintro _ _ ⟨p22, A22, n22, c22, h, rfl, rfl⟩
 refine run ?_
 obtain rfl := ak h
 exact aB rfl rfl (ab [0] 1 rfl rfl) ⟨_, _, _, rfl, rfl⟩
theorem lR {r : (List Int)} : ∀ v post, ((fun (u : Value) (post : List Chunk) => ∃ A0 n0 c0, u = .slice A0 n0 c0 ∧ post = [bN A0 n0 c0 r])) v post → ∀ c ∈ post, bX c := by
 rintro _ _ ⟨_, _, _, rfl, rfl⟩; exact mem_cons bE (aj)
def nh (N : Nat) (p5 : (List Int)) : Option (List Int) :=
 some p5
def gh (N : Nat) (kb6 : (List Int) → Int → Option (List Int)) (p8 : Int) (a0 : DCell) (p12 : (List Int)) : Option (List Int) :=
 bD (aK (p8 + 1)) (kb6 p12 (p8 + 1))
def r15_Weakly_l6 (N : Nat) (a0 : DCell) : Nat → (List Int) → Int → Option (List Int)
 | 0, _, _ => none
 | m6 + 1, p7, p8 => bif decide (p8 < (a0.More.length : Int)) then ((aH a0.More p8).bind fun x13 => (iU N x13).bind fun y14 => (bif y14 then ((jd N a0.Kind p8).bind fun y16 => some y16) else (some false)).bind fun b15 => bif b15 then ((aH a0.More p8).bind fun x18 => bD (cu (p7.length + ([x18.N] : List Int).length)) (gh N (r15_Weakly_l6 N a0 m6) p8 a0 (p7 ++ ([x18.N] : List Int)))) else (gh N (r15_Weakly_l6 N a0 m6) p8 a0 p7)) else (nh N p7)
def fg (N : Nat) (a0 : DCell) : Option (List Int) :=
 r15_Weakly_l6 N a0 N [] 0
theorem ng {N : Nat} {a0 : DCell} {r : (List Int)} (h : fg N a0 = some r) : Okc Try.prog 41 [.agg #[iV a0.Kind, iV a0.Shape, iV a0.Flags, iV a0.Age, .slice A1 n1 c1, .slice A2 n2 c2]] ([aF A1 n1 c1 a0.Slots, aF A2 n2 c2 a0.More]) (fun u post => ∃ A0 n0 c0, u = .slice A0 n0 c0 ∧ post = [bN A0 n0 c0 r]) := by
 refine bz Try.func41 rfl rfl ?_
 simp only [aQ]
 refine run ?_
 refine gD (aU rfl rfl) ?_
 rintro _ _ ⟨B3, rfl, rfl⟩
 refine run ?_
 refine aL (fun s L => ∃ p5 A5 n5 c5, nh N p5 = some r ∧ s = [(2, .slice none 0 0), (3, .slice A5 n5 c5)] ∧ L = [bN A5 n5 c5 p5]) ?_ ?_
 ·refine run ?_
  refine bc (fun m s L => ∃ p7 p8 A7 n7 c7, r15_Weakly_l6 N a0 m p7 p8 = some r ∧ s = [(1, pV B3 0), (2, .slice none 0 0), (3, .slice A7 n7 c7), (4, iV p8)] ∧ L = [bN A7 n7 c7 p7, aF A1 n1 c1 a0.Slots, aF A2 n2 c2 a0.More, aq B3 42 [iV a0.Kind, iV a0.Shape, iV a0.Flags, iV a0.Age, .slice A1 n1 c1, .slice A2 n2 c2]]) N _ _ ⟨[], 0, none, 0, 0, h, rfl, rfl⟩ sA ((cz (ge .i64) 3 _).trans (ab [0, 2, 3, 1] 4 rfl rfl)) ?_
  rintro (_ | m6) _ _ ⟨p7, p8, A7, n7, c7, h, rfl, rfl⟩
  ·exact aA h
  rw [r15_Weakly_l6.eq_2] at h
  refine av ?_
  refine run ?_
  refine gR (az 2 rfl ai rfl Try.underlying25) ?_
  refine run ?_
  refine ar rfl (fun g10 => ?_) (fun g10 => ?_)
  ·replace h := ag g10 h
   refine run ?_
   refine aL (fun s L => ∃ p12 A12 n12 c12, gh N (r15_Weakly_l6 N a0 m6) p8 a0 p12 = some r ∧ s = [(1, pV B3 0), (2, .slice none 0 0), (3, .slice A12 n12 c12), (4, iV p8)] ∧ L = [bN A12 n12 c12 p12, aF A1 n1 c1 a0.Slots, aF A2 n2 c2 a0.More, aq B3 42 [iV a0.Kind, iV a0.Shape, iV a0.Flags, iV a0.Age, .slice A1 n1 c1, .slice A2 n2 c2]]) ?_ ?_
   ·refine run ?_
    obtain ⟨x13, hx13, h⟩ := aa h
    obtain ⟨lx13, ux13, hx13⟩ := ap hx13
    refine gR (aC 2 rfl ai rfl rfl Try.underlying25 aG lx13 ux13) ?_
    refine gR (aO (us := [iV x13.Kind, iV x13.N, .string x13.S]) 2 rfl ai rfl hx13 bp (fun _ _ _ h => by rw [show _ = _ from h]; rfl)) ?_
    obtain ⟨y14, hy14, h⟩ := aa h
    refine gD (al (nA hy14) ww rfl (aj) kL) ?_
    rintro _ _ ⟨_, ⟨rfl, rfl⟩, rfl⟩
    refine run ?_
    obtain ⟨b15, hb15, h⟩ := aa h
    refine aw 5 23 b15 ?_ ?_
    ·clear h
     refine ax 18 rfl (fun g15 => ?_) (fun g15 => ?_)
     ·have h := ag g15 hb15
      refine run ?_
      obtain ⟨y16, hy16, h⟩ := aa h
      refine bM (al (pP hy16) zM rfl (aj) ne) rfl (aJ g15 rfl) rfl ?_
      rintro _ _ ⟨_, ⟨rfl, rfl⟩, rfl⟩
      refine run ?_
      obtain rfl := ak h
      exact ad sA (ab [0, 1, 2, 3] 4 rfl rfl)
     have h := ah g15 hb15
     refine run ?_
     obtain rfl := ak h
     exact ad sA (ab [0, 1, 2, 3] 4 rfl rfl)
    refine run ?_
    refine ar rfl (fun g17 => ?_) (fun g17 => ?_)
    ·replace h := ag g17 h
     refine run ?_
     obtain ⟨x18, hx18, h⟩ := aa h
     obtain ⟨lx18, ux18, hx18⟩ := ap hx18
     refine gR (aC 2 rfl ai rfl rfl Try.underlying25 aG lx18 ux18) ?_
     refine gR (oa 2 rfl ai rfl (bU lx18 ux18) iP) ?_
     refine gR (aX (u := iV x18.N) 2 rfl ai rfl hx18 dv (fun _ _ _ h => by rw [show _ = _ from h]; rfl)) ?_
     refine gD (bB (R := (ge .i64)) (vss := [[iV x18.N]]) (xs := [x18.N]) rfl (fa _) rfl rfl (fun _ _ hr => .cons rfl All2.nil)) ?_
     rintro _ _ ⟨A19, n19, c19, rfl, rfl⟩
     obtain ⟨q20, h⟩ := ao h
     refine gD (bm 1 0 rfl rfl aM rfl rfl Try.underlying31 ui rfl rfl q20) ?_
     rintro _ _ ⟨A21, n21, c21, rfl, rfl⟩
     refine run ?_
     exact ⟨_, _, ⟨p7 ++ ([x18.N] : List Int), A21, n21, c21, h, rfl, rfl⟩, sA, ab [1, 2, 3, 4] 5 rfl rfl⟩
    replace h := ah g17 h
    refine run ?_
    exact ⟨_, _, ⟨p7, A7, n7, c7, h, rfl, rfl⟩, sA, ab [0, 1, 2, 3] 4 rfl rfl⟩
   rintro _ _ ⟨p12, A12, n12, c12, h, rfl, rfl⟩
   refine run ?_
   obtain ⟨q22, h⟩ := ao h
   refine gE (aN rfl rfl q22.1 q22.2) ?_
   refine run ?_
   exact ⟨m6, _, _, Nat.lt_succ_self _, ⟨p12, p8 + 1, A12, n12, c12, h, rfl, rfl⟩, sA, ab [0, 1, 2, 3] 4 rfl rfl⟩
  replace h := ah g10 h
  refine run ?_
  exact ⟨_, _, ⟨p7, A7, n7, c7, h, rfl, rfl⟩, sA, ab [0] 4 rfl rfl⟩
 rintro _ _ ⟨p5, A5, n5, c5, h, rfl, rfl⟩
 refine run ?_
 obtain rfl := ak h
 exact aB rfl rfl (ab [0] 1 rfl rfl) ⟨_, _, _, rfl, rfl⟩
theorem lp {r : (List Int)} : ∀ v post, ((fun (u : Value) (post : List Chunk) => ∃ A0 n0 c0, u = .slice A0 n0 c0 ∧ post = [bN A0 n0 c0 r])) v post → ∀ c ∈ post, bX c := by
 rintro _ _ ⟨_, _, _, rfl, rfl⟩; exact mem_cons bE (aj)
def fV (N : Nat) (a0 : Int) : Option Bool :=
 (bif decide (0 < a0) then (some (decide (a0.tmod 2 = 1))) else (some false)).bind fun b1 => some b1
theorem oc {N : Nat} {a0 : Int} {r : Bool} (h : fV N a0 = some r) : Okc Try.prog 42 [iV a0] ([]) (fun u post => u = .bool r ∧ post = []) := by
 refine bz Try.func42 rfl rfl ?_
 simp only [aQ]
 refine run ?_
 obtain ⟨b1, hb1, h⟩ := aa h
 refine aw 4 9 b1 ?_ ?_
 ·clear h
  refine ax 5 rfl (fun g1 => ?_) (fun g1 => ?_)
  ·have h := ag g1 hb1
   refine run ?_
   refine kc (mg rfl rfl (by decide)) rfl (aJ g1 rfl) rfl ?_
   refine run ?_
   obtain rfl := ak h
   exact ad sA (ab [] 0 rfl rfl)
  have h := ah g1 hb1
  refine run ?_
  obtain rfl := ak h
  exact ad sA (ab [] 0 rfl rfl)
 refine run ?_
 obtain rfl := ak h
 exact aB rfl rfl (ab [] 0 rfl rfl) ⟨rfl, rfl⟩
theorem lM {r : Bool} : ∀ v post, ((fun (u : Value) (post : List Chunk) => u = .bool r ∧ post = [])) v post → ∀ c ∈ post, bX c := by
 rintro _ _ ⟨rfl, rfl⟩; exact aj
def pG (N : Nat) (p5 : (List Int)) : Option (List Int) :=
 some p5
def iJ (N : Nat) (kb6 : (List Int) → Int → Option (List Int)) (p8 : Int) (a0 : DMemory) (p12 : (List Int)) : Option (List Int) :=
 bD (aK (p8 + 1)) (kb6 p12 (p8 + 1))
def kC (N : Nat) (kb6 : (List Int) → Int → Option (List Int)) (p8 : Int) (p7 : (List Int)) (a0 : DMemory) (p28 : Bool) : Option (List Int) :=
 bif p28 then (bD (aK (2 * p8)) (bD (aK ((2 * p8) + 2)) (bD (cu (p7.length + ([(2 * p8) + 2] : List Int).length)) (iJ N kb6 p8 a0 (p7 ++ ([(2 * p8) + 2] : List Int)))))) else (iJ N kb6 p8 a0 p7)
def w20_kept_l29 (N : Nat) (kb6 : (List Int) → Int → Option (List Int)) (p8 : Int) (p7 : (List Int)) (y21 : ((List Int))) (y23 : ((List Int))) (a0 : DMemory) : Nat → Bool → Int → Option (List Int)
 | 0, _, _ => none
 | m29 + 1, p30, p31 => bif decide (p31 < ((y21 ++ y23).length : Int)) then ((bif p30 then (some true) else ((aH (y21 ++ y23) p31).bind fun x34 => (fV N x34).bind fun y35 => some y35)).bind fun b33 => bD (aK (p31 + 1)) ((w20_kept_l29 N kb6 p8 p7 y21 y23 a0 m29) b33 (p31 + 1))) else (kC N kb6 p8 p7 a0 p30)
def w20_kept_l6 (N : Nat) (a0 : DMemory) : Nat → (List Int) → Int → Option (List Int)
 | 0, _, _ => none
 | m6 + 1, p7, p8 => bif decide (p8 < (a0.Old.length : Int)) then ((aH a0.Old p8).bind fun x13 => (aH a0.Old p8).bind fun x17 => (eR N x13).bind fun y21 => (fg N x17).bind fun y23 => bD (cu (y21.length + y23.length)) (w20_kept_l29 N (w20_kept_l6 N a0 m6) p8 p7 y21 y23 a0 N false 0)) else (pG N p7)
def kD (N : Nat) (a0 : DMemory) : Option (List Int) :=
 w20_kept_l6 N a0 N [] 0
theorem um {N : Nat} {a0 : DMemory} {r : (List Int)} (h : kD N a0 = some r) : Okc Try.prog 10 [.agg #[.slice A1 n1 c1, .slice A2 n2 c2]] ([aR A1 n1 c1 a0.Young, aR A2 n2 c2 a0.Old]) (fun u post => ∃ A0 n0 c0, u = .slice A0 n0 c0 ∧ post = [bN A0 n0 c0 r]) := by
 refine bz Try.func10 rfl rfl ?_
 simp only [aQ]
 refine run ?_
 refine gD (aU rfl rfl) ?_
 rintro _ _ ⟨B3, rfl, rfl⟩
 refine run ?_
 refine aL (fun s L => ∃ p5 A5 n5 c5, pG N p5 = some r ∧ s = [(2, .slice none 0 0), (3, .slice A5 n5 c5)] ∧ L = [bN A5 n5 c5 p5]) ?_ ?_
 ·refine run ?_
  refine bc (fun m s L => ∃ p7 p8 A7 n7 c7, w20_kept_l6 N a0 m p7 p8 = some r ∧ s = [(1, pV B3 0), (2, .slice none 0 0), (3, .slice A7 n7 c7), (4, iV p8)] ∧ L = [bN A7 n7 c7 p7, aR A1 n1 c1 a0.Young, aR A2 n2 c2 a0.Old, aq B3 24 [.slice A1 n1 c1, .slice A2 n2 c2]]) N _ _ ⟨[], 0, none, 0, 0, h, rfl, rfl⟩ sA ((cz (ge .i64) 3 _).trans (ab [0, 2, 3, 1] 4 rfl rfl)) ?_
  rintro (_ | m6) _ _ ⟨p7, p8, A7, n7, c7, h, rfl, rfl⟩
  ·exact aA h
  rw [w20_kept_l6.eq_2] at h
  refine av ?_
  refine run ?_
  refine gR (az 2 rfl ai rfl Try.underlying22) ?_
  refine run ?_
  refine ar rfl (fun g10 => ?_) (fun g10 => ?_)
  ·replace h := ag g10 h
   refine run ?_
   refine aL (fun s L => ∃ p12 A12 n12 c12, iJ N (w20_kept_l6 N a0 m6) p8 a0 p12 = some r ∧ s = [(1, pV B3 0), (2, .slice none 0 0), (3, .slice A12 n12 c12), (4, iV p8)] ∧ L = [bN A12 n12 c12 p12, aR A1 n1 c1 a0.Young, aR A2 n2 c2 a0.Old, aq B3 24 [.slice A1 n1 c1, .slice A2 n2 c2]]) ?_ ?_
   ·refine ep ?_
    refine av ?_
    refine dY (by kernel_rfl) _ (ac _) ?_
    refine aW 0 rfl (by kernel_rfl) (cK rfl jK) rfl rfl ?_
    refine bL 1 rfl (by kernel_rfl) (bd 3 rfl rfl fD rfl) rfl rfl ?_
    refine aW 2 rfl (by kernel_rfl) (aI rfl) rfl rfl ?_
    obtain ⟨x13, hx13, h⟩ := aa h
    obtain ⟨lx13, ux13, hx13⟩ := ap hx13
    refine bL 3 rfl (by kernel_rfl) (aC 2 rfl ai rfl rfl Try.underlying22 bq lx13 ux13) rfl rfl ?_
    refine uc 2 rfl hx13 (cE x13) ?_
    rintro _ _ ⟨A14, n14, c14, A15, n15, c15, rfl, rfl⟩
    refine bL 4 rfl (by kernel_rfl) (gc (us := [iV x13.Kind, iV x13.Shape, iV x13.Flags, iV x13.Age, .slice A14 n14 c14, .slice A15 n15 c15]) 0 rfl rfl ba rfl) rfl rfl ?_
    refine aW 6 rfl (by kernel_rfl) (cK rfl jK) rfl rfl ?_
    refine bL 7 rfl (by kernel_rfl) (bd 6 rfl rfl fD rfl) rfl rfl ?_
    refine aW 8 rfl (by kernel_rfl) (aI rfl) rfl rfl ?_
    obtain ⟨x17, hx17, h⟩ := aa h
    obtain ⟨lx17, ux17, hx17⟩ := ap hx17
    refine bL 9 rfl (by kernel_rfl) (aC 5 rfl ai rfl rfl Try.underlying22 bq lx17 ux17) rfl rfl ?_
    refine uc 5 rfl hx17 (cE x17) ?_
    rintro _ _ ⟨A18, n18, c18, A19, n19, c19, rfl, rfl⟩
    refine bL 10 rfl (by kernel_rfl) (gc (us := [iV x17.Kind, iV x17.Shape, iV x17.Flags, iV x17.Age, .slice A18 n18 c18, .slice A19 n19 c19]) 0 rfl rfl ba rfl) rfl rfl ?_
    obtain ⟨y21, hy21, h⟩ := aa h
    refine ea 5 rfl (by kernel_rfl) (al (oq hy21) zU rfl (mem_cons (am (i := 4) rfl rfl) (mem_cons (am (i := 5) rfl rfl) aj)) lR) rfl rfl rfl ?_
    rintro _ _ ⟨_, ⟨A22, n22, c22, rfl, rfl⟩, rfl⟩
    refine ⟨[ki (bK (.slice A2 n2 c2) p8.toNat 6 0) [iV x17.Kind, iV x17.Shape, iV x17.Flags, iV x17.Age, .slice A18 n18 c18, .slice A19 n19 c19], aF A18 n18 c18 x17.Slots, aF A19 n19 c19 x17.More, ki (bK (.slice A2 n2 c2) p8.toNat 6 0) [iV x13.Kind, iV x13.Shape, iV x13.Flags, iV x13.Age, .slice A14 n14 c14, .slice A15 n15 c15], aF A14 n14 c14 x13.Slots, aF A15 n15 c15 x13.More, bN A7 n7 c7 p7, aR A1 n1 c1 a0.Young, aR A2 n2 c2 a0.Old, aq B3 24 [.slice A1 n1 c1, .slice A2 n2 c2]], ab [1, 2, 3, 4, 5, 6, 7, 8, 9, 10] 11 rfl rfl, ac _, ?_⟩
    obtain ⟨y23, hy23, h⟩ := aa h
    refine ea 11 rfl (by kernel_rfl) (al (ng hy23) zP rfl (mem_cons (am (i := 2) rfl rfl) (mem_cons (am (i := 3) rfl rfl) aj)) lp) rfl rfl rfl ?_
    rintro _ _ ⟨_, ⟨A24, n24, c24, rfl, rfl⟩, rfl⟩
    refine ⟨[ki (bK (.slice A2 n2 c2) p8.toNat 6 0) [iV x17.Kind, iV x17.Shape, iV x17.Flags, iV x17.Age, .slice A18 n18 c18, .slice A19 n19 c19], aF A18 n18 c18 x17.Slots, aF A19 n19 c19 x17.More, ki (bK (.slice A2 n2 c2) p8.toNat 6 0) [iV x13.Kind, iV x13.Shape, iV x13.Flags, iV x13.Age, .slice A14 n14 c14, .slice A15 n15 c15], aF A14 n14 c14 x13.Slots, aF A15 n15 c15 x13.More, bN A7 n7 c7 p7, aR A1 n1 c1 a0.Young, aR A2 n2 c2 a0.Old, aq B3 24 [.slice A1 n1 c1, .slice A2 n2 c2]], ab [2, 3, 4, 5, 6, 7, 8, 9, 10, 11] 12 rfl rfl, ac _, ?_⟩
    obtain ⟨q25, h⟩ := ao h
    refine ea 12 rfl (by kernel_rfl) (bm 1 0 rfl rfl aM rfl rfl Try.underlying31 ui rfl rfl q25) rfl rfl rfl ?_
    rintro _ _ ⟨A26, n26, c26, rfl, rfl⟩
    refine ⟨[ki (bK (.slice A2 n2 c2) p8.toNat 6 0) [iV x17.Kind, iV x17.Shape, iV x17.Flags, iV x17.Age, .slice A18 n18 c18, .slice A19 n19 c19], aF A18 n18 c18 x17.Slots, aF A19 n19 c19 x17.More, ki (bK (.slice A2 n2 c2) p8.toNat 6 0) [iV x13.Kind, iV x13.Shape, iV x13.Flags, iV x13.Age, .slice A14 n14 c14, .slice A15 n15 c15], aF A14 n14 c14 x13.Slots, aF A15 n15 c15 x13.More, bN A7 n7 c7 p7, aR A1 n1 c1 a0.Young, aR A2 n2 c2 a0.Old, aq B3 24 [.slice A1 n1 c1, .slice A2 n2 c2]], ab [2, 3, 4, 5, 6, 7, 8, 9, 10, 11] 12 rfl rfl, ac _, ?_⟩
    refine iR ([bN A24 n24 c24 y23, bN A26 n26 c26 (y21 ++ y23), ki (bK (.slice A2 n2 c2) p8.toNat 6 0) [iV x17.Kind, iV x17.Shape, iV x17.Flags, iV x17.Age, .slice A18 n18 c18, .slice A19 n19 c19], aF A18 n18 c18 x17.Slots, aF A19 n19 c19 x17.More, ki (bK (.slice A2 n2 c2) p8.toNat 6 0) [iV x13.Kind, iV x13.Shape, iV x13.Flags, iV x13.Age, .slice A14 n14 c14, .slice A15 n15 c15], aF A14 n14 c14 x13.Slots, aF A15 n15 c15 x13.More, bN A7 n7 c7 p7, aR A1 n1 c1 a0.Young, aR A2 n2 c2 a0.Old, aq B3 24 [.slice A1 n1 c1, .slice A2 n2 c2]]) rfl ?_
    refine aW 13 rfl (by kernel_rfl) (bP rfl) rfl rfl ?_
    refine dX (by kernel_rfl) ?_
    refine run ?_
    refine aL (fun s L => ∃ p28, kC N (w20_kept_l6 N a0 m6) p8 p7 a0 p28 = some r ∧ s = [(1, pV B3 0), (2, .slice none 0 0), (3, .slice A7 n7 c7), (4, iV p8), (6, .bool p28)] ∧ L = [bN A7 n7 c7 p7, aR A1 n1 c1 a0.Young, aR A2 n2 c2 a0.Old, aq B3 24 [.slice A1 n1 c1, .slice A2 n2 c2]]) ?_ ?_
    ·refine run ?_
     refine bc (fun m s L => ∃ p30 p31, w20_kept_l29 N (w20_kept_l6 N a0 m6) p8 p7 y21 y23 a0 m p30 p31 = some r ∧ s = [(1, pV B3 0), (2, .slice none 0 0), (3, .slice A7 n7 c7), (4, iV p8), (5, .slice A26 n26 c26), (6, .bool p30), (7, iV p31)] ∧ L = [bN A7 n7 c7 p7, bN A26 n26 c26 (y21 ++ y23), aR A1 n1 c1 a0.Young, aR A2 n2 c2 a0.Old, aq B3 24 [.slice A1 n1 c1, .slice A2 n2 c2]]) N _ _ ⟨false, 0, h, rfl, rfl⟩ sA (ab [8, 1, 9, 10, 11] 12 rfl rfl) ?_
     rintro (_ | m29) _ _ ⟨p30, p31, h, rfl, rfl⟩
     ·exact aA h
     rw [w20_kept_l29.eq_2] at h
     refine av ?_
     refine run ?_
     refine gR (az 1 rfl aM rfl Try.underlying31) ?_
     refine run ?_
     refine ar rfl (fun g32 => ?_) (fun g32 => ?_)
     ·replace h := ag g32 h
      refine run ?_
      refine av ?_
      refine run ?_
      obtain ⟨b33, hb33, h⟩ := aa h
      refine aw 6 41 b33 ?_ ?_
      ·clear h
       refine ax 35 rfl (fun g33 => ?_) (fun g33 => ?_)
       ·have h := ag g33 hb33
        refine run ?_
        obtain rfl := ak h
        exact ad sA (ab [0, 1, 2, 3, 4] 5 rfl rfl)
       have h := ah g33 hb33
       refine run ?_
       obtain ⟨x34, hx34, h⟩ := aa h
       obtain ⟨lx34, ux34, hx34⟩ := ap hx34
       refine aZ (aC 1 rfl aM rfl rfl Try.underlying31 eH lx34 ux34) rfl (cO g33 rfl) rfl ?_
       refine aZ (aX (u := iV x34) 1 rfl aM rfl hx34 dv (fun _ _ _ h => by rw [show _ = _ from h]; rfl)) rfl (cO g33 rfl) rfl ?_
       obtain ⟨y35, hy35, h⟩ := aa h
       refine bM (al (oc hy35) zO rfl (aj) lM) rfl (cO g33 rfl) rfl ?_
       rintro _ _ ⟨_, ⟨rfl, rfl⟩, rfl⟩
       refine run ?_
       obtain rfl := ak h
       exact ad sA (ab [0, 1, 2, 3, 4] 5 rfl rfl)
      refine run ?_
      obtain ⟨q36, h⟩ := ao h
      refine gE (aN rfl rfl q36.1 q36.2) ?_
      refine run ?_
      exact ⟨m29, _, _, Nat.lt_succ_self _, ⟨b33, p31 + 1, h, rfl, rfl⟩, sA, ab [0, 1, 2, 3, 4] 5 rfl rfl⟩
     replace h := ah g32 h
     refine run ?_
     exact ⟨_, _, ⟨p30, h, rfl, rfl⟩, sA, ab [0, 2, 3, 4] 5 rfl rfl⟩
    rintro _ _ ⟨p28, h, rfl, rfl⟩
    refine run ?_
    refine ar rfl (fun g37 => ?_) (fun g37 => ?_)
    ·replace h := ag g37 h
     refine run ?_
     obtain ⟨q38, h⟩ := ao h
     refine gE (pz rfl rfl q38.1 q38.2) ?_
     obtain ⟨q39, h⟩ := ao h
     refine gE (aN rfl rfl q39.1 q39.2) ?_
     refine gD (bB (R := (ge .i64)) (vss := [[iV ((2 * p8) + 2)]]) (xs := [(2 * p8) + 2]) rfl (fa _) rfl rfl (fun _ _ hr => .cons rfl All2.nil)) ?_
     rintro _ _ ⟨A40, n40, c40, rfl, rfl⟩
     obtain ⟨q41, h⟩ := ao h
     refine gD (bm 1 0 rfl rfl aM rfl rfl Try.underlying31 ui rfl rfl q41) ?_
     rintro _ _ ⟨A42, n42, c42, rfl, rfl⟩
     refine run ?_
     exact ⟨_, _, ⟨p7 ++ ([(2 * p8) + 2] : List Int), A42, n42, c42, h, rfl, rfl⟩, sA, ab [1, 2, 3, 4] 5 rfl rfl⟩
    replace h := ah g37 h
    refine run ?_
    exact ⟨_, _, ⟨p7, A7, n7, c7, h, rfl, rfl⟩, sA, ab [0, 1, 2, 3] 4 rfl rfl⟩
   rintro _ _ ⟨p12, A12, n12, c12, h, rfl, rfl⟩
   refine run ?_
   obtain ⟨q43, h⟩ := ao h
   refine gE (aN rfl rfl q43.1 q43.2) ?_
   refine run ?_
   exact ⟨m6, _, _, Nat.lt_succ_self _, ⟨p12, p8 + 1, A12, n12, c12, h, rfl, rfl⟩, sA, ab [0, 1, 2, 3] 4 rfl rfl⟩
  replace h := ah g10 h
  refine run ?_
  exact ⟨_, _, ⟨p7, A7, n7, c7, h, rfl, rfl⟩, sA, ab [0] 4 rfl rfl⟩
 rintro _ _ ⟨p5, A5, n5, c5, h, rfl, rfl⟩
 refine run ?_
 obtain rfl := ak h
 exact aB rfl rfl (ab [0] 1 rfl rfl) ⟨_, _, _, rfl, rfl⟩
theorem rR {r : (List Int)} : ∀ v post, ((fun (u : Value) (post : List Chunk) => ∃ A0 n0 c0, u = .slice A0 n0 c0 ∧ post = [bN A0 n0 c0 r])) v post → ∀ c ∈ post, bX c := by
 rintro _ _ ⟨_, _, _, rfl, rfl⟩; exact mem_cons bE (aj)
def od (N : Nat) (p3 : (List Int)) : Option (List Int) :=
 some p3
def iL (N : Nat) (kb4 : (List Int) → Int → Option (List Int)) (p6 : Int) (a0 : (List DValue)) (p10 : (List Int)) : Option (List Int) :=
 bD (aK (p6 + 1)) (kb4 p10 (p6 + 1))
def r20_Roots_l4 (N : Nat) (a0 : (List DValue)) : Nat → (List Int) → Int → Option (List Int)
 | 0, _, _ => none
 | m4 + 1, p5, p6 => bif decide (p6 < (a0.length : Int)) then ((aH a0 p6).bind fun x11 => (bif decide (x11.Kind = 7) then (some true) else ((aH a0 p6).bind fun x13 => some (decide (x13.Kind = 9)))).bind fun b12 => bif b12 then ((aH a0 p6).bind fun x15 => bD (cu (p5.length + ([x15.N] : List Int).length)) (iL N (r20_Roots_l4 N a0 m4) p6 a0 (p5 ++ ([x15.N] : List Int)))) else (iL N (r20_Roots_l4 N a0 m4) p6 a0 p5)) else (od N p5)
def jF (N : Nat) (a0 : (List DValue)) : Option (List Int) :=
 r20_Roots_l4 N a0 N [] 0
theorem ti {N : Nat} {a0 : (List DValue)} {r : (List Int)} (h : jF N a0 = some r) : Okc Try.prog 44 [.slice A1 n1 c1] ([aF A1 n1 c1 a0]) (fun u post => ∃ A0 n0 c0, u = .slice A0 n0 c0 ∧ post = [bN A0 n0 c0 r]) := by
 refine bz Try.func44 rfl rfl ?_
 simp only [aQ]
 refine run ?_
 refine aL (fun s L => ∃ p3 A3 n3 c3, od N p3 = some r ∧ s = [(2, .slice none 0 0), (3, .slice A3 n3 c3)] ∧ L = [bN A3 n3 c3 p3]) ?_ ?_
 ·refine run ?_
  refine bc (fun m s L => ∃ p5 p6 A5 n5 c5, r20_Roots_l4 N a0 m p5 p6 = some r ∧ s = [(0, .slice A1 n1 c1), (2, .slice none 0 0), (3, .slice A5 n5 c5), (4, iV p6)] ∧ L = [aF A1 n1 c1 a0, bN A5 n5 c5 p5]) N _ _ ⟨[], 0, none, 0, 0, h, rfl, rfl⟩ sA ((cz (ge .i64) 3 _).trans (ab [1, 0] 2 rfl rfl)) ?_
  rintro (_ | m4) _ _ ⟨p5, p6, A5, n5, c5, h, rfl, rfl⟩
  ·exact aA h
  rw [r20_Roots_l4.eq_2] at h
  refine av ?_
  refine run ?_
  refine gR (az 0 rfl ai rfl Try.underlying25) ?_
  refine run ?_
  refine ar rfl (fun g8 => ?_) (fun g8 => ?_)
  ·replace h := ag g8 h
   refine run ?_
   refine aL (fun s L => ∃ p10 A10 n10 c10, iL N (r20_Roots_l4 N a0 m4) p6 a0 p10 = some r ∧ s = [(0, .slice A1 n1 c1), (2, .slice none 0 0), (3, .slice A10 n10 c10), (4, iV p6)] ∧ L = [aF A1 n1 c1 a0, bN A10 n10 c10 p10]) ?_ ?_
   ·refine run ?_
    obtain ⟨x11, hx11, h⟩ := aa h
    obtain ⟨lx11, ux11, hx11⟩ := ap hx11
    refine gR (aC 0 rfl ai rfl rfl Try.underlying25 aG lx11 ux11) ?_
    refine gR (iq 0 rfl ai rfl (bU lx11 ux11) ei) ?_
    refine gR (aX (u := iV x11.Kind) 0 rfl ai rfl hx11 dv (fun _ _ _ h => by rw [show _ = _ from h]; rfl)) ?_
    refine run ?_
    obtain ⟨b12, hb12, h⟩ := aa h
    refine aw 7 24 b12 ?_ ?_
    ·clear h
     refine ax 17 rfl (fun g12 => ?_) (fun g12 => ?_)
     ·have h := ag g12 hb12
      refine run ?_
      obtain rfl := ak h
      exact ad sA (ab [0, 1] 2 rfl rfl)
     have h := ah g12 hb12
     refine run ?_
     obtain ⟨x13, hx13, h⟩ := aa h
     obtain ⟨lx13, ux13, hx13⟩ := ap hx13
     refine aZ (aC 0 rfl ai rfl rfl Try.underlying25 aG lx13 ux13) rfl (cO g12 rfl) rfl ?_
     refine aZ (iq 0 rfl ai rfl (bU lx13 ux13) ei) rfl (cO g12 rfl) rfl ?_
     refine aZ (aX (u := iV x13.Kind) 0 rfl ai rfl hx13 dv (fun _ _ _ h => by rw [show _ = _ from h]; rfl)) rfl (cO g12 rfl) rfl ?_
     refine run ?_
     obtain rfl := ak h
     exact ad sA (ab [0, 1] 2 rfl rfl)
    refine run ?_
    refine ar rfl (fun g14 => ?_) (fun g14 => ?_)
    ·replace h := ag g14 h
     refine run ?_
     obtain ⟨x15, hx15, h⟩ := aa h
     obtain ⟨lx15, ux15, hx15⟩ := ap hx15
     refine gR (aC 0 rfl ai rfl rfl Try.underlying25 aG lx15 ux15) ?_
     refine gR (oa 0 rfl ai rfl (bU lx15 ux15) iP) ?_
     refine gR (aX (u := iV x15.N) 0 rfl ai rfl hx15 dv (fun _ _ _ h => by rw [show _ = _ from h]; rfl)) ?_
     refine gD (bB (R := (ge .i64)) (vss := [[iV x15.N]]) (xs := [x15.N]) rfl (fa _) rfl rfl (fun _ _ hr => .cons rfl All2.nil)) ?_
     rintro _ _ ⟨A16, n16, c16, rfl, rfl⟩
     obtain ⟨q17, h⟩ := ao h
     refine gD (bm 2 0 rfl rfl aM rfl rfl Try.underlying31 ui rfl rfl q17) ?_
     rintro _ _ ⟨A18, n18, c18, rfl, rfl⟩
     refine run ?_
     exact ⟨_, _, ⟨p5 ++ ([x15.N] : List Int), A18, n18, c18, h, rfl, rfl⟩, sA, ab [1, 2] 3 rfl rfl⟩
    replace h := ah g14 h
    refine run ?_
    exact ⟨_, _, ⟨p5, A5, n5, c5, h, rfl, rfl⟩, sA, ab [0, 1] 2 rfl rfl⟩
   rintro _ _ ⟨p10, A10, n10, c10, h, rfl, rfl⟩
   refine run ?_
   obtain ⟨q19, h⟩ := ao h
   refine gE (aN rfl rfl q19.1 q19.2) ?_
   refine run ?_
   exact ⟨m4, _, _, Nat.lt_succ_self _, ⟨p10, p6 + 1, A10, n10, c10, h, rfl, rfl⟩, sA, ab [0, 1] 2 rfl rfl⟩
  replace h := ah g8 h
  refine run ?_
  exact ⟨_, _, ⟨p5, A5, n5, c5, h, rfl, rfl⟩, sA, ab [1] 2 rfl rfl⟩
 rintro _ _ ⟨p3, A3, n3, c3, h, rfl, rfl⟩
 refine run ?_
 obtain rfl := ak h
 exact aB rfl rfl (ab [0] 1 rfl rfl) ⟨_, _, _, rfl, rfl⟩
theorem qW {r : (List Int)} : ∀ v post, ((fun (u : Value) (post : List Chunk) => ∃ A0 n0 c0, u = .slice A0 n0 c0 ∧ post = [bN A0 n0 c0 r])) v post → ∀ c ∈ post, bX c := by
 rintro _ _ ⟨_, _, _, rfl, rfl⟩; exact mem_cons bE (aj)
def mG (N : Nat) (a0 : DMemory) (a1 : Int) : Option Bool :=
 bif decide (a1 < 1) then (some false) else ((fV N a1).bind fun y5 => bif y5 then (bD (aK (a1.tdiv 2)) (some (decide (a1.tdiv 2 < (a0.Young.length : Int))))) else (bD (aK (a1.tdiv 2)) (bD (aK ((a1.tdiv 2) - 1)) (some (decide ((a1.tdiv 2) - 1 < (a0.Old.length : Int)))))))
theorem vO {N : Nat} {a0 : DMemory} {a1 : Int} {r : Bool} (h : mG N a0 a1 = some r) : Okc Try.prog 83 [.agg #[.slice A1 n1 c1, .slice A2 n2 c2], iV a1] ([aR A1 n1 c1 a0.Young, aR A2 n2 c2 a0.Old]) (fun u post => u = .bool r ∧ post = []) := by
 refine bz Try.func83 rfl rfl ?_
 simp only [aQ]
 refine run ?_
 refine gD (aU rfl rfl) ?_
 rintro _ _ ⟨B3, rfl, rfl⟩
 refine run ?_
 refine av ?_
 refine run ?_
 refine ar rfl (fun g4 => ?_) (fun g4 => ?_)
 ·replace h := ag g4 h
  refine run ?_
  obtain rfl := ak h
  exact aB rfl rfl (ab [] 3 rfl rfl) ⟨rfl, rfl⟩
 replace h := ah g4 h
 refine run ?_
 refine av ?_
 refine run ?_
 obtain ⟨y5, hy5, h⟩ := aa h
 refine gD (al (oc hy5) zO rfl (aj) lM) ?_
 rintro _ _ ⟨_, ⟨rfl, rfl⟩, rfl⟩
 refine run ?_
 refine ar rfl (fun g6 => ?_) (fun g6 => ?_)
 ·replace h := ag g6 h
  refine run ?_
  obtain ⟨q7, h⟩ := ao h
  refine gE (py rfl rfl (by decide) q7.1 q7.2) ?_
  refine run ?_
  refine gR (az 1 rfl ai rfl Try.underlying22) ?_
  refine run ?_
  obtain rfl := ak h
  exact aB rfl rfl (ab [] 3 rfl rfl) ⟨rfl, rfl⟩
 replace h := ah g6 h
 refine run ?_
 obtain ⟨q8, h⟩ := ao h
 refine gE (py rfl rfl (by decide) q8.1 q8.2) ?_
 obtain ⟨q9, h⟩ := ao h
 refine gE (jV rfl rfl q9.1 q9.2) ?_
 refine run ?_
 refine gR (az 2 rfl ai rfl Try.underlying22) ?_
 refine run ?_
 obtain rfl := ak h
 exact aB rfl rfl (ab [] 3 rfl rfl) ⟨rfl, rfl⟩
theorem tj {r : Bool} : ∀ v post, ((fun (u : Value) (post : List Chunk) => u = .bool r ∧ post = [])) v post → ∀ c ∈ post, bX c := by
 rintro _ _ ⟨rfl, rfl⟩; exact aj
end Go.Proofs.Ytmbaennilhdieaa