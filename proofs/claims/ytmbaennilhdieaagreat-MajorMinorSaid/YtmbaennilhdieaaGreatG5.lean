/- Merged texts: part 5. No conditions of their own. -/
import Derived.Test.YtmbaennilhdieaaGreatG4
namespace Go.Proofs.YtmbaennilhdieaaGreat
variable {A1 A10 A11 A2 A3 A4 A5 A6 A7 : Option Addr} {B1 M8 M9 c1 c10 c11 c2 c3 c4 c5 c6 c7 n1 n10 n11 n2 n3 n4 n5 n6 n7 : Nat}
open Go.RowKit Asn
set_option maxRecDepth 20000
def iJ (N : Nat) (a0 : (List DCell)) : Option (List DCell) :=
 bM (cD (([] : List DCell).length + a0.length)) (some (([] : List DCell) ++ a0))
theorem pE {N : Nat} {a0 : (List DCell)} {r : (List DCell)} (h : iJ N a0 = some r) : Okc Tryz.prog 125 [.slice A1 n1 c1] ([aF A1 n1 c1 a0]) (fun u post => ∃ A0 n0 c0, u = .slice A0 n0 c0 ∧ post = [cz A0 n0 c0 r]) := by
 refine bN Tryz.func125 rfl rfl ?_
 simp only [bc]
 refine run ?_
 refine aB ?_
 refine run ?_
 refine gE (uS rfl Tryz.underlying22) ?_
 refine run ?_
 refine ay rfl (fun g2 => ?_) (fun g2 => ?_)
 ·replace g2 : (A1).isNone = true := by simpa using g2
  refine Dt 0 rfl ao g2 (fun hx => ?_)
  subst hx
  replace h : bM (cD (([] : List DCell).length + ([] : List DCell).length)) (some (([] : List DCell) ++ ([] : List DCell))) = some r := h
  replace h : some [] = some r := by simpa [bM] using h
  refine run ?_
  obtain rfl := aq h
  exact aQ rfl rfl ((cH bO 32 _).trans (ad [0] 2 rfl rfl)) ⟨_, _, _, rfl, rfl⟩
 refine run ?_
 refine gD (bm (R := bO) (vss := []) (xs := []) rfl (FP) rfl rfl (fun _ _ hr => All2.nil)) ?_
 rintro _ _ ⟨A4, n4, c4, rfl, rfl⟩
 refine run ?_
 obtain ⟨q5, h⟩ := ap h
 refine gD (bF 0 1 rfl rfl ao rfl rfl Tryz.underlying22 Af rfl rfl q5) ?_
 rintro _ _ ⟨A6, n6, c6, rfl, rfl⟩
 refine run ?_
 obtain rfl := aq h
 exact aQ rfl rfl (ad [0] 2 rfl rfl) ⟨_, _, _, rfl, rfl⟩
def kh (N : Nat) (p5 : (List DCell)) : Option (List DCell) :=
 some p5
def gS (N : Nat) (kb6 : (List DCell) → Int → Option (List DCell)) (y2 : ((List DCell))) (p8 : Int) (p11 : (List DCell)) : Option (List DCell) :=
 bM (in64 (p8 + 1)) (kb6 p11 (p8 + 1))
def reach_bare_c1_l6 (N : Nat) (y2 : ((List DCell))) : Nat → (List DCell) → Int → Option (List DCell)
 | 0, _, _ => none
 | m6 + 1, p7, p8 => bif decide (p8 < (y2.length : Int)) then ((aG p7 p8).bind fun x12 => (bif decide (x12.Kind = 10) then ((dP N x12).bind fun y17 => some y17) else (some false)).bind fun b16 => bif b16 then (bM ((0 : Int) ≤ 1 ∧ 0 ≤ (1 : Int).toNat ∧ (1 : Int).toNat ≤ x12.More.length) ((aG p7 p8).bind fun x21 => gS N (reach_bare_c1_l6 N y2 m6) y2 p8 (List.set p7 p8.toNat (⟨x21.Kind, x21.Shape, x21.Flags, x21.Age, x21.Slots, (x12.More.drop 0).take ((1 : Int).toNat - 0)⟩ : DCell)))) else (gS N (reach_bare_c1_l6 N y2 m6) y2 p8 p7)) else (kh N p7)
def gy (N : Nat) (a0 : (List DCell)) : Option (List DCell) :=
 (iJ N a0).bind fun y2 => reach_bare_c1_l6 N y2 N y2 0
theorem oh {N : Nat} {a0 : (List DCell)} {r : (List DCell)} (h : gy N a0 = some r) : Okc Tryz.prog 124 [.slice A1 n1 c1] ([aF A1 n1 c1 a0]) (fun u post => ∃ A0 n0 c0, u = .slice A0 n0 c0 ∧ post = [cz A0 n0 c0 r]) := by
 refine bN Tryz.func124 rfl rfl ?_
 simp only [bc]
 refine run ?_
 obtain ⟨y2, hy2, h⟩ := aa h
 refine gD (bH (pE hy2) G2 rfl (be [0] [] [0] 1 rfl)) ?_
 rintro _ _ ⟨_, ⟨A3, n3, c3, rfl, rfl⟩, rfl⟩
 refine run ?_
 refine aS (fun s L => ∃ p5 A5 n5 c5, kh N p5 = some r ∧ s = [(2, .slice none 0 0), (3, .slice A5 n5 c5)] ∧ L = [cz A5 n5 c5 p5]) ?_ ?_
 ·refine run ?_
  refine gR (aL 0 rfl aH rfl Tryz.underlying22) ?_
  refine run ?_
  refine bp (fun m s L => ∃ p7 p8 A7 n7 c7, reach_bare_c1_l6 N y2 m p7 p8 = some r ∧ s = [(2, .slice none 0 0), (3, .slice A7 n7 c7), (8, .slice A7 n7 c7), (9, iV (y2.length : Int)), (10, iV p8)] ∧ L = [cz A7 n7 c7 p7]) N _ _ ⟨y2, 0, A3, n3, c3, h, rfl, rfl⟩ sA (ad [0] 2 rfl rfl) ?_
  rintro (_ | m6) _ _ ⟨p7, p8, A7, n7, c7, h, rfl, rfl⟩
  ·exact aD h
  rw [reach_bare_c1_l6.eq_2] at h
  refine run ?_
  refine aB ?_
  refine ay rfl (fun g9 => ?_) (fun g9 => ?_)
  ·replace h := ah g9 h
   refine run ?_
   refine aS (fun s L => ∃ p11 A11 n11 c11, gS N (reach_bare_c1_l6 N y2 m6) y2 p8 p11 = some r ∧ s = [(2, .slice none 0 0), (3, .slice A11 n11 c11), (8, .slice A11 n11 c11), (9, iV (y2.length : Int)), (10, iV p8)] ∧ L = [cz A11 n11 c11 p11]) ?_ ?_
   ·refine run ?_
    obtain ⟨x12, hx12, h⟩ := aa h
    obtain ⟨lx12, ux12, hx12⟩ := au hx12
    refine gR (aM 0 rfl aH rfl rfl Tryz.underlying22 bz lx12 ux12) ?_
    refine gD (Az 0 rfl aH rfl hx12 bu rfl (db x12)) ?_
    rintro u _ ⟨_, _, ⟨A13, n13, c13, A14, n14, c14, rfl, rfl⟩, hu, rfl⟩
    obtain rfl : u = .agg #[iV x12.Kind, iV x12.Shape, iV x12.Flags, iV x12.Age, .slice A13 n13 c13, .slice A14 n14 c14] := hu
    refine gD (aJ dR rfl) ?_
    rintro _ _ ⟨B15, rfl, rfl⟩
    refine run ?_
    refine gO (ar (us := [iV x12.Kind, iV x12.Shape, iV x12.Flags, iV x12.Age, .slice A13 n13 c13, .slice A14 n14 c14]) (cs' := [iV x12.Kind, iV x12.Shape, iV x12.Flags, iV x12.Age, .slice A13 n13 c13, .slice A14 n14 c14]) 0 rfl rfl rfl rfl bz rfl rfl rfl) ?_
    rintro _ _ rfl
    refine run ?_
    obtain ⟨b16, hb16, h⟩ := aa h
    refine aX 3 21 b16 ?_ ?_
    ·clear h
     refine aY 18 rfl (fun g16 => ?_) (fun g16 => ?_)
     ·have h := ah g16 hb16
      refine cY (aC (us := [iV x12.Kind, iV x12.Shape, iV x12.Flags, iV x12.Age, .slice A13 n13 c13, .slice A14 n14 c14]) 0 rfl rfl bu rfl) rfl (bd g16 rfl) rfl ?_
      obtain ⟨y17, hy17, h⟩ := aa h
      refine dj (am (fD hy17) sq rfl (mem_cons (aj (i := 1) rfl rfl) (mem_cons (aj (i := 2) rfl rfl) ae)) ee) rfl (bd g16 rfl) rfl ?_
      rintro _ _ ⟨_, ⟨rfl, rfl⟩, rfl⟩
      refine run ?_
      obtain rfl := aq h
      exact ak sA (ad [0, 1, 2, 3] 4 rfl rfl)
     have h := ai g16 hb16
     refine run ?_
     obtain rfl := aq h
     exact ak sA (ad [0, 1, 2, 3] 4 rfl rfl)
    refine run ?_
    refine ay rfl (fun g18 => ?_) (fun g18 => ?_)
    ·replace h := ah g18 h
     refine run ?_
     obtain ⟨q19, h⟩ := ap h
     refine Hp 2 rfl (l := 0) (h := (1 : Int).toNat) q19.2.1 q19.2.2 ?_
     rintro A20 n20 c20 e20
     refine gR (Hu 3 rfl e20 rfl Tryz.underlying25 bh rfl rfl (by rw [Int.toNat_of_nonneg q19.1]; rfl) q19.2.1 q19.2.2) ?_
     obtain ⟨x21, hx21, h⟩ := aa h
     obtain ⟨lx21, ux21, hx21⟩ := au hx21
     refine gR (aM 4 rfl aH rfl rfl Tryz.underlying22 bz lx21 ux21) ?_
     refine gR (rv 4 rfl aH rfl (dC lx21 ux21) gn) ?_
     refine gO (ue (us := [.slice A20 n20 c20]) (z := (⟨x21.Kind, x21.Shape, x21.Flags, x21.Age, x21.Slots, (x12.More.drop 0).take ((1 : Int).toNat - 0)⟩ : DCell)) 4 rfl rfl rfl rfl iL rfl (dC lx21 ux21) rfl (fun S w vs xk hk hr ho => by obtain rfl := Option.some.inj (hk.symm.trans hx21); obtain ⟨_, _, _, _, _, _, rfl, s4, s5⟩ := hr; exact ⟨_, _, _, _, _, _, rfl, s4, ho 0 _ rfl rfl⟩)) ?_
     rintro _ _ rfl
     refine bC ([av A20 n20 c20 ((x12.More.drop 0).take ((1 : Int).toNat - 0)), ag B15 32 [iV x12.Kind, iV x12.Shape, iV x12.Flags, iV x12.Age, .slice A13 n13 c13, .slice A14 n14 c14], av A13 n13 c13 x12.Slots, av A14 n14 c14 x12.More, cz A7 n7 c7 (List.set p7 p8.toNat (⟨x21.Kind, x21.Shape, x21.Flags, x21.Age, x21.Slots, (x12.More.drop 0).take ((1 : Int).toNat - 0)⟩ : DCell))]) rfl ?_
     refine run ?_
     exact ⟨_, _, ⟨List.set p7 p8.toNat (⟨x21.Kind, x21.Shape, x21.Flags, x21.Age, x21.Slots, (x12.More.drop 0).take ((1 : Int).toNat - 0)⟩ : DCell), A7, n7, c7, h, rfl, rfl⟩, sA, ad [4] 5 rfl rfl⟩
    replace h := ai g18 h
    refine run ?_
    exact ⟨_, _, ⟨p7, A7, n7, c7, h, rfl, rfl⟩, sA, ad [3] 4 rfl rfl⟩
   rintro _ _ ⟨p11, A11, n11, c11, h, rfl, rfl⟩
   refine cx ?_
   obtain ⟨q22, h⟩ := ap h
   refine gE (aR rfl rfl q22.1 q22.2) ?_
   refine run ?_
   exact ⟨m6, _, _, Nat.lt_succ_self _, ⟨p11, p8 + 1, A11, n11, c11, h, rfl, rfl⟩, sA, ad [0] 1 rfl rfl⟩
  replace h := ai g9 h
  refine run ?_
  exact ⟨_, _, ⟨p7, A7, n7, c7, h, rfl, rfl⟩, sA, ad [0] 1 rfl rfl⟩
 rintro _ _ ⟨p5, A5, n5, c5, h, rfl, rfl⟩
 refine run ?_
 obtain rfl := aq h
 exact aQ rfl rfl (ad [0] 1 rfl rfl) ⟨_, _, _, rfl, rfl⟩
def gh (N : Nat) (a0 : DMemory) : Option DMemory :=
 (gy N a0.Young).bind fun y5 => (gy N a0.Old).bind fun y7 => some (⟨y5, y7⟩ : DMemory)
theorem rt {N : Nat} {a0 : DMemory} {r : DMemory} (h : gh N a0 = some r) : Okc Tryz.prog 70 [.agg #[.slice A1 n1 c1, .slice A2 n2 c2]] ([aF A1 n1 c1 a0.Young, aF A2 n2 c2 a0.Old]) (fun u post => ∃ A0 n0 c0 A1 n1 c1, u = .agg #[.slice A0 n0 c0, .slice A1 n1 c1] ∧ post = [cz A0 n0 c0 r.Young, cz A1 n1 c1 r.Old]) := by
 refine bN Tryz.func70 rfl rfl ?_
 simp only [bc]
 refine run ?_
 refine gD (bo rfl rfl) ?_
 rintro _ _ ⟨B3, rfl, rfl⟩
 refine gD (aJ nI rfl) ?_
 rintro _ _ ⟨B4, rfl, rfl⟩
 refine run ?_
 refine aB ?_
 refine dB (by kernel_rfl) ([ag B3 24 [.slice A1 n1 c1, .slice A2 n2 c2], aF A1 n1 c1 a0.Young, aF A2 n2 c2 a0.Old]) (ad [1, 2, 3] 4 rfl rfl) ?_
 refine aI 0 rfl (by kernel_rfl) (az rfl) rfl rfl ?_
 refine aI 1 rfl (by kernel_rfl) (jm rfl tz) rfl rfl ?_
 refine bv 2 rfl (by kernel_rfl) (aO 0 rfl rfl gU rfl) rfl rfl ?_
 refine aI 4 rfl (by kernel_rfl) (az rfl) rfl rfl ?_
 refine aI 5 rfl (by kernel_rfl) (cr rfl jS) rfl rfl ?_
 refine bv 6 rfl (by kernel_rfl) (aO 0 rfl rfl gU rfl) rfl rfl ?_
 obtain ⟨y5, hy5, h⟩ := aa h
 refine gt 3 rfl (by kernel_rfl) (iW (oh hy5) Df rfl rfl rfl (be [2] [] [0, 1, 2, 3] 4 rfl)) rfl rfl rfl ?_
 rintro _ _ ⟨_, ⟨A6, n6, c6, rfl, rfl⟩, rfl⟩
 refine ⟨[ag B3 24 [.slice A1 n1 c1, .slice A2 n2 c2], aF A1 n1 c1 a0.Young, aF A2 n2 c2 a0.Old], ad [2, 3, 4] 5 rfl rfl, ab _, ?_⟩
 refine fF ([cz A6 n6 c6 y5, ag B4 24 [.slice none 0 0, .slice none 0 0], ag B3 24 [.slice A1 n1 c1, .slice A2 n2 c2], aF A1 n1 c1 a0.Young, aF A2 n2 c2 a0.Old]) rfl ?_
 obtain ⟨y7, hy7, h⟩ := aa h
 refine gt 7 rfl (by kernel_rfl) (iW (oh hy7) Df rfl rfl rfl (be [4] [] [0, 1, 2, 3, 4] 5 rfl)) rfl rfl rfl ?_
 rintro _ _ ⟨_, ⟨A8, n8, c8, rfl, rfl⟩, rfl⟩
 refine ⟨[ag B3 24 [.slice A1 n1 c1, .slice A2 n2 c2], aF A1 n1 c1 a0.Young, aF A2 n2 c2 a0.Old], ad [3, 4, 5] 6 rfl rfl, ab _, ?_⟩
 refine fF ([cz A8 n8 c8 y7, cz A6 n6 c6 y5, ag B4 24 [.slice none 0 0, .slice none 0 0], ag B3 24 [.slice A1 n1 c1, .slice A2 n2 c2], aF A1 n1 c1 a0.Young, aF A2 n2 c2 a0.Old]) rfl ?_
 refine aI 8 rfl (by kernel_rfl) (cU rfl (xv _ _ _ _ _ _)) rfl rfl ?_
 refine qq 9 rfl (by kernel_rfl) (ar (us := [.slice A6 n6 c6, .slice A8 n8 c8]) (cs' := [.slice A6 n6 c6, .slice A8 n8 c8]) 2 rfl rfl rfl rfl lw rfl rfl rfl) rfl rfl ?_
 rintro _ _ rfl
 refine ⟨[ag B3 24 [.slice A1 n1 c1, .slice A2 n2 c2], aF A1 n1 c1 a0.Young, aF A2 n2 c2 a0.Old], ad [3, 4, 5] 6 rfl rfl, ab _, ?_⟩
 refine fF ([cz A8 n8 c8 y7, cz A6 n6 c6 y5, ag B4 24 [.slice A6 n6 c6, .slice A8 n8 c8], ag B3 24 [.slice A1 n1 c1, .slice A2 n2 c2], aF A1 n1 c1 a0.Young, aF A2 n2 c2 a0.Old]) rfl ?_
 refine dA (by kernel_rfl) ?_
 refine run ?_
 obtain rfl := aq h
 exact eP (rs := [.cell 2 24]) (vs := [.agg #[.slice A6 n6 c6, .slice A8 n8 c8]]) rfl (.cons (dn 2 rfl rfl cN) .nil) rfl (ad [1, 0] 6 rfl rfl) ⟨_, _, _, _, _, _, rfl, rfl⟩
def eh (N : Nat) (a0 : DTwins) (a1 : DValue) (a2 : DValue) : Option Bool :=
 (cG N a1).bind fun y12 => (cG N a2).bind fun y13 => (bif !y12.2 then (some true) else (some (!y13.2))).bind fun b14 => bif b14 then (some (decide (a1 = a2))) else ((bif !decide (a1.Kind = a2.Kind) then (some true) else (some (!(a1.S.toList == a2.S.toList)))).bind fun b16 => bif b16 then (some false) else ((bif !((lk a0.from_ y12.1).isSome) then (some true) else (some (!((lk a0.to_ y13.1).isSome)))).bind fun b18 => bif b18 then ((bif !((lk a0.from_ y12.1).isSome) then (some (!((lk a0.to_ y13.1).isSome))) else (some false)).bind fun b20 => (bif b20 then ((dx N a0.a_ y12.1).bind fun y22 => (dx N a0.b_ y13.1).bind fun y23 => some (y22 == y23)) else (some false)).bind fun b21 => some b21) else (some (decide ((lk a0.from_ y12.1).getD 0 = (lk a0.to_ y13.1).getD 0)))))
theorem pJ {N : Nat} {a0 : DTwins} {a1 : DValue} {a2 : DValue} {r : Bool} (h : eh N a0 a1 a2 = some r) : Okc Tryz.prog 127 [pV B1 0, .agg #[iV a1.Kind, iV a1.N, .string a1.S], .agg #[iV a2.Kind, iV a2.N, .string a2.S]] ([bU B1 90 [.slice A2 n2 c2, .slice A3 n3 c3, .slice A4 n4 c4, .slice A5 n5 c5, .slice A6 n6 c6, .slice A7 n7 c7, .map (some M8), .map (some M9)], aF A2 n2 c2 a0.a_.Young, aF A3 n3 c3 a0.a_.Old, aF A4 n4 c4 a0.b_.Young, aF A5 n5 c5 a0.b_.Old, cm A6 n6 c6 a0.x_, cm A7 n7 c7 a0.y_, pG bQ iQ M8 a0.from_, pG bQ iQ M9 a0.to_]) (fun u post => u = .bool r ∧ post = []) := by
 refine bN Tryz.func127 rfl rfl ?_
 simp only [bc]
 refine run ?_
 refine gD (bo rfl rfl) ?_
 rintro _ _ ⟨B10, rfl, rfl⟩
 refine gD (bo rfl rfl) ?_
 rintro _ _ ⟨B11, rfl, rfl⟩
 refine run ?_
 refine gR (aC (us := [iV a1.Kind, iV a1.N, .string a1.S]) 1 rfl rfl ca rfl) ?_
 obtain ⟨y12, hy12, h⟩ := aa h
 refine gD (am (iw hy12) zQ rfl (ae) gi) ?_
 rintro _ _ ⟨_, ⟨rfl, rfl⟩, rfl⟩
 refine run ?_
 refine gR (aC (us := [iV a2.Kind, iV a2.N, .string a2.S]) 0 rfl rfl ca rfl) ?_
 obtain ⟨y13, hy13, h⟩ := aa h
 refine gD (am (iw hy13) zQ rfl (ae) gi) ?_
 rintro _ _ ⟨_, ⟨rfl, rfl⟩, rfl⟩
 refine run ?_
 refine aB ?_
 refine run ?_
 obtain ⟨b14, hb14, h⟩ := aa h
 refine aX 3 30 b14 ?_ ?_
 ·clear h
  refine aY 27 rfl (fun g14 => ?_) (fun g14 => ?_)
  ·have h := ah g14 hb14
   refine run ?_
   obtain rfl := aq h
   exact ak sA (ad [0, 1, 2, 3, 4, 5, 6, 7, 8, 9, 10] 11 rfl rfl)
  have h := ai g14 hb14
  refine run ?_
  obtain rfl := aq h
  exact ak sA (ad [0, 1, 2, 3, 4, 5, 6, 7, 8, 9, 10] 11 rfl rfl)
 refine run ?_
 refine ay rfl (fun g15 => ?_) (fun g15 => ?_)
 ·replace h := ah g15 h
  refine run ?_
  refine gR (aC (us := [iV a1.Kind, iV a1.N, .string a1.S]) 1 rfl rfl ca rfl) ?_
  refine gR (aC (us := [iV a2.Kind, iV a2.N, .string a2.S]) 0 rfl rfl ca rfl) ?_
  refine gE (xg (x := a1) (y := a2) rfl rfl) ?_
  refine run ?_
  obtain rfl := aq h
  exact aQ rfl rfl (ad [] 11 rfl rfl) ⟨rfl, rfl⟩
 replace h := ai g15 h
 refine run ?_
 refine aB ?_
 refine run ?_
 obtain ⟨b16, hb16, h⟩ := aa h
 refine aX 6 45 b16 ?_ ?_
 ·clear h
  refine aY 39 rfl (fun g16 => ?_) (fun g16 => ?_)
  ·have h := ah g16 hb16
   refine run ?_
   obtain rfl := aq h
   exact ak sA (ad [0, 1, 2, 3, 4, 5, 6, 7, 8, 9, 10] 11 rfl rfl)
  have h := ai g16 hb16
  refine run ?_
  refine ri (AU rfl rfl) rfl (gm g16 rfl) rfl ?_
  refine run ?_
  obtain rfl := aq h
  exact ak sA (ad [0, 1, 2, 3, 4, 5, 6, 7, 8, 9, 10] 11 rfl rfl)
 refine run ?_
 refine ay rfl (fun g17 => ?_) (fun g17 => ?_)
 ·replace h := ah g17 h
  refine run ?_
  obtain rfl := aq h
  exact aQ rfl rfl (ad [] 11 rfl rfl) ⟨rfl, rfl⟩
 replace h := ai g17 h
 refine run ?_
 refine gR (ci 2 rfl rfl rG rfl) ?_
 refine run ?_
 refine gR (kZ (a := y12.1) (z := 0) 9 rfl Cc rfl rfl Tryz.underlying88 (cB Tryz.underlying3) uy) ?_
 refine run ?_
 refine gR (ci 2 rfl rfl rG rfl) ?_
 refine run ?_
 refine gR (kZ (a := y13.1) (z := 0) 10 rfl Cc rfl rfl Tryz.underlying88 (cB Tryz.underlying3) uy) ?_
 refine run ?_
 refine aB ?_
 refine run ?_
 obtain ⟨b18, hb18, h⟩ := aa h
 refine aX 3 69 b18 ?_ ?_
 ·clear h
  refine aY 66 rfl (fun g18 => ?_) (fun g18 => ?_)
  ·have h := ah g18 hb18
   refine run ?_
   obtain rfl := aq h
   exact ak sA (ad [0, 1, 2, 3, 4, 5, 6, 7, 8, 9, 10] 11 rfl rfl)
  have h := ai g18 hb18
  refine run ?_
  obtain rfl := aq h
  exact ak sA (ad [0, 1, 2, 3, 4, 5, 6, 7, 8, 9, 10] 11 rfl rfl)
 refine run ?_
 refine ay rfl (fun g19 => ?_) (fun g19 => ?_)
 ·replace h := ah g19 h
  refine aB ?_
  refine dB (by kernel_rfl) _ (ab _) ?_
  refine aI 0 rfl (by kernel_rfl) (az rfl) rfl rfl ?_
  refine aI 1 rfl (by kernel_rfl) (xh rfl) rfl rfl ?_
  refine aI 2 rfl (by kernel_rfl) (az rfl) rfl rfl ?_
  obtain ⟨b20, hb20, h⟩ := aa h
  refine tR (fun l => (((l.setIfInBounds 3 true).setIfInBounds 4 true).setIfInBounds 5 true)) 16 75 b20 (fun rest => ?_) ?_
  ·clear h
   refine vL 72 rfl (fun g20 => ?_) (fun g20 => ?_)
   ·have h := ah g20 hb20
    refine aI 3 rfl (by kernel_rfl) (az rfl) (bd g20 rfl) rfl ?_
    refine aI 4 rfl (by kernel_rfl) (xh rfl) (bd g20 rfl) rfl ?_
    refine aI 5 rfl (by kernel_rfl) (cR g20 rfl rfl) rfl rfl ?_
    obtain rfl := aq h
    exact qp rest (iR rfl (bf (bf (bf cw rfl) rfl) rfl)) (ab _) (ab _)
   have h := ai g20 hb20
   refine i9 3 rfl (by kernel_rfl) (cX g20 rfl) rfl ?_
   refine i9 4 rfl (by kernel_rfl) (cX g20 rfl) rfl ?_
   refine aI 5 rfl (by kernel_rfl) (cT g20 rfl rfl) rfl rfl ?_
   obtain rfl := aq h
   exact qp rest (iR rfl (bf (bf (bf cw rfl) rfl) rfl)) (ab _) (ab _)
  refine aI 6 rfl (by kernel_rfl) (az rfl) rfl rfl ?_
  obtain ⟨b21, hb21, h⟩ := aa h
  refine tR (fun l => ((((((((((((((l.setIfInBounds 7 true).setIfInBounds 8 true).setIfInBounds 9 true).setIfInBounds 10 true).setIfInBounds 11 true).setIfInBounds 13 true).setIfInBounds 14 true).setIfInBounds 15 true).setIfInBounds 16 true).setIfInBounds 17 true).setIfInBounds 12 true).setIfInBounds 18 true).setIfInBounds 19 true).setIfInBounds 20 true)) 1 90 b21 (fun rest => ?_) ?_
  ·clear h
   refine vL 76 rfl (fun g21 => ?_) (fun g21 => ?_)
   ·have h := ah g21 hb21
    refine aI 7 rfl (by kernel_rfl) (az rfl) (bd g21 rfl) rfl ?_
    refine aI 8 rfl (by kernel_rfl) (aZ rfl) (bd g21 rfl) rfl ?_
    refine aI 9 rfl (by kernel_rfl) (jm rfl vC) (bd g21 rfl) rfl ?_
    refine bv 10 rfl (by kernel_rfl) (om (us := [.slice A2 n2 c2, .slice A3 n3 c3]) 2 rfl rfl cN rfl) (bd g21 rfl) rfl ?_
    refine aI 11 rfl (by kernel_rfl) (az rfl) (bd g21 rfl) rfl ?_
    refine aI 13 rfl (by kernel_rfl) (az rfl) (bd g21 rfl) rfl ?_
    refine aI 14 rfl (by kernel_rfl) (aZ rfl) (bd g21 rfl) rfl ?_
    refine aI 15 rfl (by kernel_rfl) (cr rfl vB) (bd g21 rfl) rfl ?_
    refine bv 16 rfl (by kernel_rfl) (om (us := [.slice A4 n4 c4, .slice A5 n5 c5]) 2 rfl rfl cN rfl) (bd g21 rfl) rfl ?_
    refine aI 17 rfl (by kernel_rfl) (az rfl) (bd g21 rfl) rfl ?_
    obtain ⟨y22, hy22, h⟩ := aa h
    refine gt 12 rfl (by kernel_rfl) (am (dM hy22) nW rfl (mem_cons (aj (i := 3) rfl rfl) (mem_cons (aj (i := 4) rfl rfl) ae)) dh) rfl (bd g21 rfl) rfl ?_
    rintro _ _ ⟨_, ⟨rfl, rfl⟩, rfl⟩
    refine ⟨_, ab _, ab _, ?_⟩
    obtain ⟨y23, hy23, h⟩ := aa h
    refine gt 18 rfl (by kernel_rfl) (am (dM hy23) nW rfl (mem_cons (aj (i := 5) rfl rfl) (mem_cons (aj (i := 6) rfl rfl) ae)) dh) rfl (bd g21 rfl) rfl ?_
    rintro _ _ ⟨_, ⟨rfl, rfl⟩, rfl⟩
    refine ⟨_, ab _, ab _, ?_⟩
    refine aI 19 rfl (by kernel_rfl) (Fn rfl rfl Tryz.underlying4) (bd g21 rfl) rfl ?_
    refine aI 20 rfl (by kernel_rfl) (cR g21 rfl rfl) rfl rfl ?_
    obtain rfl := aq h
    exact qp rest (iR rfl (bf (bf (bf (bf (bf (bf (bf (bf (bf (bf (bf (bf (bf (bf cw rfl) rfl) rfl) rfl) rfl) rfl) rfl) rfl) rfl) rfl) rfl) rfl) rfl) rfl)) (ab _) (ab _)
   have h := ai g21 hb21
   refine i9 7 rfl (by kernel_rfl) (cX g21 rfl) rfl ?_
   refine i9 8 rfl (by kernel_rfl) (cX g21 rfl) rfl ?_
   refine i9 9 rfl (by kernel_rfl) (cX g21 rfl) rfl ?_
   refine i9 10 rfl (by kernel_rfl) (cX g21 rfl) rfl ?_
   refine i9 11 rfl (by kernel_rfl) (cX g21 rfl) rfl ?_
   refine i9 13 rfl (by kernel_rfl) (cX g21 rfl) rfl ?_
   refine i9 14 rfl (by kernel_rfl) (cX g21 rfl) rfl ?_
   refine i9 15 rfl (by kernel_rfl) (cX g21 rfl) rfl ?_
   refine i9 16 rfl (by kernel_rfl) (cX g21 rfl) rfl ?_
   refine i9 17 rfl (by kernel_rfl) (cX g21 rfl) rfl ?_
   refine i9 12 rfl (by kernel_rfl) (cX g21 rfl) rfl ?_
   refine i9 18 rfl (by kernel_rfl) (cX g21 rfl) rfl ?_
   refine i9 19 rfl (by kernel_rfl) (cX g21 rfl) rfl ?_
   refine aI 20 rfl (by kernel_rfl) (cT g21 rfl rfl) rfl rfl ?_
   obtain rfl := aq h
   exact qp rest (iR rfl (bf (bf (bf (bf (bf (bf (bf (bf (bf (bf (bf (bf (bf (bf cw rfl) rfl) rfl) rfl) rfl) rfl) rfl) rfl) rfl) rfl) rfl) rfl) rfl) rfl)) (ab _) (ab _)
  refine aI 21 rfl (by kernel_rfl) (bw rfl) rfl rfl ?_
  refine dA (by kernel_rfl) ?_
  refine run ?_
  obtain rfl := aq h
  exact aQ rfl rfl (ad [] 11 rfl rfl) ⟨rfl, rfl⟩
 replace h := ai g19 h
 refine run ?_
 obtain rfl := aq h
 exact aQ rfl rfl (ad [] 11 rfl rfl) ⟨rfl, rfl⟩
def lK (N : Nat) (ff : (DValue × DValue) → Option Bool) : Option Bool :=
 some true
def slices_EqualFunc_l5 (N : Nat) (ff : (DValue × DValue) → Option Bool) (a0 : (List DValue)) (a1 : (List DValue)) : Nat → Int → Option Bool
 | 0, _ => none
 | m5 + 1, p6 => bif decide (p6 < (a0.length : Int)) then ((aG a0 p6).bind fun x8 => (aG a1 p6).bind fun x10 => (ff (x8, x10)).bind fun y12 => bif !y12 then (some false) else (bM (in64 (p6 + 1)) ((slices_EqualFunc_l5 N ff a0 a1 m5) (p6 + 1)))) else (lK N ff)
def jh (N : Nat) (a0 : (List DValue)) (a1 : (List DValue)) (ff : (DValue × DValue) → Option Bool) : Option Bool :=
 bif !decide ((a0.length : Int) = (a1.length : Int)) then (some false) else (slices_EqualFunc_l5 N ff a0 a1 N 0)
theorem qY {N : Nat} {a0 : (List DValue)} {a1 : (List DValue)} {ff : (DValue × DValue) → Option Bool} {r : Bool} (h : jh N a0 a1 ff = some r) {vf : Value} {G : List Chunk} (hf : Bq Tryz.prog vf G (fun x => [.agg #[iV x.1.Kind, iV x.1.N, .string x.1.S], .agg #[iV x.2.Kind, iV x.2.N, .string x.2.S]]) (fun r => .bool r) ff) : Okc Tryz.prog 126 [.slice A1 n1 c1, .slice A2 n2 c2, vf] (av A1 n1 c1 a0 :: av A2 n2 c2 a1 :: G) (fun u post => u = .bool r ∧ post = []) := by
 refine bN Tryz.func126 rfl rfl ?_
 simp only [bc]
 refine run ?_
 refine aB ?_
 refine run ?_
 refine gR (aL 0 rfl ao rfl Tryz.underlying25) ?_
 refine run ?_
 refine gR (aL 1 rfl ao rfl Tryz.underlying25) ?_
 refine run ?_
 refine ay rfl (fun g3 => ?_) (fun g3 => ?_)
 ·replace h := ah g3 h
  refine run ?_
  obtain rfl := aq h
  exact aQ rfl rfl (kR [] 2 rfl rfl) ⟨rfl, rfl⟩
 replace h := ai g3 h
 refine run ?_
 refine aS (fun s L => lK N ff = some r ∧ s = [(6, .bool false)] ∧ L = G) ?_ ?_
 ·refine run ?_
  refine gR (aL 0 rfl ao rfl Tryz.underlying25) ?_
  refine run ?_
  refine bp (fun m s L => ∃ p6, slices_EqualFunc_l5 N ff a0 a1 m p6 = some r ∧ s = [(1, .slice A2 n2 c2), (2, vf), (6, .bool false), (15, .slice A1 n1 c1), (16, iV (a0.length : Int)), (17, iV p6)] ∧ L = av A2 n2 c2 a1 :: av A1 n1 c1 a0 :: G) N _ _ ⟨0, h, rfl, rfl⟩ sA (ad [1, 0] 2 rfl rfl) ?_
  rintro (_ | m5) _ _ ⟨p6, h, rfl, rfl⟩
  ·exact aD h
  rw [slices_EqualFunc_l5.eq_2] at h
  refine run ?_
  refine aB ?_
  refine ay rfl (fun g7 => ?_) (fun g7 => ?_)
  ·replace h := ah g7 h
   refine run ?_
   refine aB ?_
   refine run ?_
   obtain ⟨x8, hx8, h⟩ := aa h
   obtain ⟨lx8, ux8, hx8⟩ := au hx8
   refine gR (aM 1 rfl ao rfl rfl Tryz.underlying25 bh lx8 ux8) ?_
   refine gR (bA (us := [iV x8.Kind, iV x8.N, .string x8.S]) 1 rfl ao rfl hx8 ca (fun _ _ _ h => by rw [show _ = _ from h]; rfl)) ?_
   refine gD (aJ f4 rfl) ?_
   rintro _ _ ⟨B9, rfl, rfl⟩
   refine run ?_
   refine gO (ar (us := [iV x8.Kind, iV x8.N, .string x8.S]) (cs' := [iV x8.Kind, iV x8.N, .string x8.S]) 0 rfl rfl rfl rfl bh rfl rfl rfl) ?_
   rintro _ _ rfl
   refine run ?_
   obtain ⟨x10, hx10, h⟩ := aa h
   obtain ⟨lx10, ux10, hx10⟩ := au hx10
   refine gR (aM 1 rfl ao rfl rfl Tryz.underlying25 bh lx10 ux10) ?_
   refine gR (bA (us := [iV x10.Kind, iV x10.N, .string x10.S]) 1 rfl ao rfl hx10 ca (fun _ _ _ h => by rw [show _ = _ from h]; rfl)) ?_
   refine gD (aJ f4 rfl) ?_
   rintro _ _ ⟨B11, rfl, rfl⟩
   refine gO (ar (us := [iV x10.Kind, iV x10.N, .string x10.S]) (cs' := [iV x10.Kind, iV x10.N, .string x10.S]) 0 rfl rfl rfl rfl bh rfl rfl rfl) ?_
   rintro _ _ rfl
   refine run ?_
   refine gR (aC (us := [iV x8.Kind, iV x8.N, .string x8.S]) 1 rfl rfl ca rfl) ?_
   refine gR (aC (us := [iV x10.Kind, iV x10.N, .string x10.S]) 0 rfl rfl ca rfl) ?_
   obtain ⟨y12, hy12, h⟩ := aa h
   refine gD (ta (a := (x8, x10)) [ag B11 38 [iV x10.Kind, iV x10.N, .string x10.S], ag B9 38 [iV x8.Kind, iV x8.N, .string x8.S], av A2 n2 c2 a1, av A1 n1 c1 a0] hf hy12 rfl rfl) ?_
   rintro _ _ ⟨rfl, rfl⟩
   refine bC (ag B11 38 [iV x10.Kind, iV x10.N, .string x10.S] :: ag B9 38 [iV x8.Kind, iV x8.N, .string x8.S] :: av A2 n2 c2 a1 :: av A1 n1 c1 a0 :: G) rfl ?_
   refine run ?_
   refine ay rfl (fun g13 => ?_) (fun g13 => ?_)
   ·replace h := ah g13 h
    refine run ?_
    obtain rfl := aq h
    exact aQ rfl rfl (kR [] 4 rfl rfl) ⟨rfl, rfl⟩
   replace h := ai g13 h
   refine run ?_
   obtain ⟨q14, h⟩ := ap h
   refine gE (aR rfl rfl q14.1 q14.2) ?_
   refine run ?_
   exact ⟨m5, _, _, Nat.lt_succ_self _, ⟨p6 + 1, h, rfl, rfl⟩, sA, ad [2, 3] 4 rfl rfl⟩
  replace h := ai g7 h
  refine run ?_
  exact ⟨_, _, ⟨h, rfl, rfl⟩, sA, ad [] 2 rfl rfl⟩
 rintro _ _ ⟨h, rfl, rfl⟩
 refine run ?_
 obtain rfl := aq h
 exact aQ rfl rfl (kR [] 0 rfl rfl) ⟨rfl, rfl⟩
theorem pn {r : Bool} : ∀ v post, ((fun (u : Value) (post : List Chunk) => u = .bool r ∧ post = [])) v post → ∀ c ∈ post, cZ c := by
 rintro _ _ ⟨rfl, rfl⟩; exact ae
def dm (N : Nat) (a0 : DTwins) (a1 : (List DValue)) (a2 : (List DValue)) : Option Bool :=
 (jh N a1 a2 (fun x => eh N a0 x.1 x.2)).bind fun y12 => some y12
theorem gM {N : Nat} {a0 : DTwins} {a1 : (List DValue)} {a2 : (List DValue)} {r : Bool} (h : dm N a0 a1 a2 = some r) : Okc Tryz.prog 71 [pV B1 0, .slice A10 n10 c10, .slice A11 n11 c11] ([bU B1 90 [.slice A2 n2 c2, .slice A3 n3 c3, .slice A4 n4 c4, .slice A5 n5 c5, .slice A6 n6 c6, .slice A7 n7 c7, .map (some M8), .map (some M9)], aF A2 n2 c2 a0.a_.Young, aF A3 n3 c3 a0.a_.Old, aF A4 n4 c4 a0.b_.Young, aF A5 n5 c5 a0.b_.Old, cm A6 n6 c6 a0.x_, cm A7 n7 c7 a0.y_, pG bQ iQ M8 a0.from_, pG bQ iQ M9 a0.to_, av A10 n10 c10 a1, av A11 n11 c11 a2]) (fun u post => u = .bool r ∧ post = []) := by
 refine bN Tryz.func71 rfl rfl ?_
 simp only [bc]
 refine run ?_
 refine gE (zI (caps := []) rfl rfl) ?_
 obtain ⟨y12, hy12, h⟩ := aa h
 refine gD (am (qY hy12 ⟨mem_cons rfl (mem_cons rfl (mem_cons rfl (mem_cons rfl (mem_cons rfl (mem_cons rfl (mem_cons rfl (mem_cons rfl (mem_cons rfl ae)))))))), 127, #[pV B1 0], #[], rfl, G0, fun _ _ hh => pJ hh⟩) G1 rfl (mem_cons (aj (i := 9) rfl rfl) (mem_cons (aj (i := 10) rfl rfl) (mem_cons (aj (i := 0) rfl rfl) (mem_cons (aj (i := 1) rfl rfl) (mem_cons (aj (i := 2) rfl rfl) (mem_cons (aj (i := 3) rfl rfl) (mem_cons (aj (i := 4) rfl rfl) (mem_cons (aj (i := 5) rfl rfl) (mem_cons (aj (i := 6) rfl rfl) (mem_cons (aj (i := 7) rfl rfl) (mem_cons (aj (i := 8) rfl rfl) ae))))))))))) pn) ?_
 rintro _ _ ⟨_, ⟨rfl, rfl⟩, rfl⟩
 refine run ?_
 obtain rfl := aq h
 exact aQ rfl rfl (ad [] 11 rfl rfl) ⟨rfl, rfl⟩
theorem fJ {r : Bool} : ∀ v post, ((fun (u : Value) (post : List Chunk) => u = .bool r ∧ post = [])) v post → ∀ c ∈ post, cZ c := by
 rintro _ _ ⟨rfl, rfl⟩; exact ae
def eU (N : Nat) (a0 : DValue) (a1 : (List Int)) : Option Bool :=
 (dt N a1 a0.N).bind fun y4 => some y4
theorem tT {N : Nat} {a0 : DValue} {a1 : (List Int)} {r : Bool} (h : eU N a0 a1 = some r) : Okc Tryz.prog 134 [.agg #[iV a0.Kind, iV a0.N, .string a0.S], pV B1 0] ([bU B1 35 [.slice A2 n2 c2], cm A2 n2 c2 a1]) (fun u post => u = .bool r ∧ post = []) := by
 refine bN Tryz.func134 rfl rfl ?_
 simp only [bc]
 refine run ?_
 refine gD (bo rfl rfl) ?_
 rintro _ _ ⟨B3, rfl, rfl⟩
 refine run ?_
 refine gR (ci 1 rfl rfl dE rfl) ?_
 refine run ?_
 obtain ⟨y4, hy4, h⟩ := aa h
 refine gD (am (gb hy4) vI rfl (mem_cons (aj (i := 2) rfl rfl) ae) eX) ?_
 rintro _ _ ⟨_, ⟨rfl, rfl⟩, rfl⟩
 refine run ?_
 obtain rfl := aq h
 exact aQ rfl rfl (ad [] 3 rfl rfl) ⟨rfl, rfl⟩
def fv (N : Nat) (ff : DValue → Option Bool) (y6 : (DCell)) (x12 : DValue × DValue) : ((List DValue)) → Option (Option Exit × (List DValue))
 | p13 => (ff x12.1).bind fun y18 => bif y18 then (bM (cD (p13.length + ([x12.1, x12.2] : List DValue).length)) (some (none, p13 ++ ([x12.1, x12.2] : List DValue)))) else (some (none, p13))
def py (N : Nat) (a0 : DCell) (ff : DValue → Option Bool) : Option DCell :=
 (f3 N a0).bind fun y6 => (gY N a0).bind fun y10 => (eW N a0 (cK (fun x st => fv N ff y6 x st)) (none, [])).bind fun y14 => oz y14.1 (some (⟨y6.Kind, y6.Shape, y6.Flags, y6.Age, y6.Slots, y14.2⟩ : DCell)) none (fun _ => none)
theorem zf {N : Nat} {a0 : DCell} {ff : DValue → Option Bool} {r : DCell} (h : py N a0 ff = some r) {vf : Value} {G : List Chunk} (hf : Bq Tryz.prog vf G (fun x => [.agg #[iV x.Kind, iV x.N, .string x.S]]) (fun r => .bool r) ff) : Okc Tryz.prog 133 [.agg #[iV a0.Kind, iV a0.Shape, iV a0.Flags, iV a0.Age, .slice A1 n1 c1, .slice A2 n2 c2], vf] (av A1 n1 c1 a0.Slots :: av A2 n2 c2 a0.More :: G) (fun u post => ∃ A0 n0 c0 A1 n1 c1, u = .agg #[iV r.Kind, iV r.Shape, iV r.Flags, iV r.Age, .slice A0 n0 c0, .slice A1 n1 c1] ∧ post = [bD A0 n0 c0 r.Slots, bD A1 n1 c1 r.More]) := by
 refine bN Tryz.func133 rfl rfl ?_
 simp only [bc]
 refine run ?_
 refine gD (bo rfl rfl) ?_
 rintro _ _ ⟨B3, rfl, rfl⟩
 refine gD (bo rfl (Fe hf)) ?_
 rintro _ _ ⟨B4, rfl, rfl⟩
 refine gD (aJ dR rfl) ?_
 rintro _ _ ⟨B5, rfl, rfl⟩
 refine run ?_
 refine gR (aC (us := [iV a0.Kind, iV a0.Shape, iV a0.Flags, iV a0.Age, .slice A1 n1 c1, .slice A2 n2 c2]) 2 rfl rfl bu rfl) ?_
 obtain ⟨y6, hy6, h⟩ := aa h
 refine gD (am (o5 hy6) Cu rfl (mem_cons (aj (i := 3) rfl rfl) (mem_cons (aj (i := 4) rfl rfl) ae)) mT) ?_
 rintro _ _ ⟨_, ⟨A7, n7, c7, A8, n8, c8, rfl, rfl⟩, rfl⟩
 refine gD (aJ dR rfl) ?_
 rintro _ _ ⟨B9, rfl, rfl⟩
 refine gO (ar (us := [iV y6.Kind, iV y6.Shape, iV y6.Flags, iV y6.Age, .slice A7 n7 c7, .slice A8 n8 c8]) (cs' := [iV y6.Kind, iV y6.Shape, iV y6.Flags, iV y6.Age, .slice A7 n7 c7, .slice A8 n8 c8]) 0 rfl rfl rfl rfl bz rfl rfl rfl) ?_
 rintro _ _ rfl
 refine run ?_
 refine gO (ar (us := [.slice none 0 0]) (cs' := [iV y6.Kind, iV y6.Shape, iV y6.Flags, iV y6.Age, .slice A7 n7 c7, .slice none 0 0]) 0 rfl rfl rfl rfl iL rfl rfl rfl) ?_
 rintro _ _ rfl
 refine run ?_
 refine aB ?_
 refine run ?_
 refine gR (aC (us := [iV a0.Kind, iV a0.Shape, iV a0.Flags, iV a0.Age, .slice A1 n1 c1, .slice A2 n2 c2]) 5 rfl rfl bu rfl) ?_
 obtain ⟨y10, hy10, h⟩ := aa h
 refine gD (am (o7 hy10) C8 rfl (mem_cons (aj (i := 6) rfl rfl) (mem_cons (aj (i := 7) rfl rfl) ae)) nh) ?_
 rintro _ _ ⟨_, ⟨B11, rfl, rfl⟩, rfl⟩
 refine nH ?_
 refine lN ?_
 refine dK ?_ cw (fO 0 rfl)
 refine qW (bU B11 32 [iV a0.Kind, iV a0.Shape, iV a0.Flags, iV a0.Age, .slice A1 n1 c1, .slice A2 n2 c2] :: ag B9 32 [iV y6.Kind, iV y6.Shape, iV y6.Flags, iV y6.Age, .slice A7 n7 c7, .slice none 0 0] :: bD A7 n7 c7 y6.Slots :: bD A8 n8 c8 y6.More :: ag B5 32 [iV 0, iV 0, iV 0, iV 0, .slice none 0 0, .slice none 0 0] :: ag B4 123 [vf] :: ag B3 32 [iV a0.Kind, iV a0.Shape, iV a0.Flags, iV a0.Age, .slice A1 n1 c1, .slice A2 n2 c2] :: av A1 n1 c1 a0.Slots :: av A2 n2 c2 a0.More :: G) rfl ?_
 obtain ⟨y14, hy14, h⟩ := aa h
 refine mZ (en := (fun x => [.agg #[iV x.1.Kind, iV x.1.N, .string x.1.S], .agg #[iV x.2.Kind, iV x.2.N, .string x.2.S]])) (fun x st => fv N ff y6 x st) (fun (st : (List DValue)) (mz : ((Option Addr × Nat × Nat))) => [ag B4 123 [vf], ag B5 32 [iV 0, iV 0, iV 0, iV 0, .slice none 0 0, .slice none 0 0], bD A7 n7 c7 y6.Slots, dz aw 38 (.slice mz.1 mz.2.1 mz.2.2) st, ag B9 32 [iV y6.Kind, iV y6.Shape, iV y6.Flags, iV y6.Age, .slice A7 n7 c7, .slice mz.1 mz.2.1 mz.2.2]] ++ G) [bU B11 32 [iV a0.Kind, iV a0.Shape, iV a0.Flags, iV a0.Age, .slice A1 n1 c1, .slice A2 n2 c2], av A1 n1 c1 a0.Slots, av A2 n2 c2 a0.More] ([]) ((none, 0, 0)) rfl rfl C6 rfl (fun _ => rfl) (fun l G hY => (mc hy14 hY).mono fun _ _ hh => hh.2) ((cH aw 38 _).trans (be [1, 8, 9] [] [6, 5, 3, 0, 2] 10 rfl)) h ?_ ?_ ?_ ?_
 ·rintro l x12 p13 je sr12 ⟨A13, n13, c13⟩ h
  replace h : fv N ff y6 x12 p13 = some (je, sr12) := h
  simp only [sd, List.zip_cons_cons, List.zip_nil_left, List.zip_nil_right, List.reverse_cons, List.reverse_nil, List.nil_append, List.cons_append]
  refine run ?_
  refine gD (aJ f4 rfl) ?_
  rintro _ _ ⟨B16, rfl, rfl⟩
  refine gO (ar (us := [iV x12.1.Kind, iV x12.1.N, .string x12.1.S]) (cs' := [iV x12.1.Kind, iV x12.1.N, .string x12.1.S]) 0 rfl rfl rfl rfl bh rfl rfl rfl) ?_
  rintro _ _ rfl
  refine run ?_
  refine gD (aJ f4 rfl) ?_
  rintro _ _ ⟨B17, rfl, rfl⟩
  refine gO (ar (us := [iV x12.2.Kind, iV x12.2.N, .string x12.2.S]) (cs' := [iV x12.2.Kind, iV x12.2.N, .string x12.2.S]) 0 rfl rfl rfl rfl bh rfl rfl rfl) ?_
  rintro _ _ rfl
  refine run ?_
  refine gR (aC (us := [iV x12.1.Kind, iV x12.1.N, .string x12.1.S]) 1 rfl rfl ca rfl) ?_
  obtain ⟨y18, hy18, h⟩ := aa h
  refine gD (ta (a := x12.1) [ag B17 38 [iV x12.2.Kind, iV x12.2.N, .string x12.2.S], ag B16 38 [iV x12.1.Kind, iV x12.1.N, .string x12.1.S], ag B4 123 [vf], ag B5 32 [iV 0, iV 0, iV 0, iV 0, .slice none 0 0, .slice none 0 0], bD A7 n7 c7 y6.Slots, bD A13 n13 c13 p13, ag B9 32 [iV y6.Kind, iV y6.Shape, iV y6.Flags, iV y6.Age, .slice A7 n7 c7, .slice A13 n13 c13]] hf hy18 rfl rfl) ?_
  rintro _ _ ⟨rfl, rfl⟩
  refine bC (ag B17 38 [iV x12.2.Kind, iV x12.2.N, .string x12.2.S] :: ag B16 38 [iV x12.1.Kind, iV x12.1.N, .string x12.1.S] :: ag B4 123 [vf] :: ag B5 32 [iV 0, iV 0, iV 0, iV 0, .slice none 0 0, .slice none 0 0] :: bD A7 n7 c7 y6.Slots :: bD A13 n13 c13 p13 :: ag B9 32 [iV y6.Kind, iV y6.Shape, iV y6.Flags, iV y6.Age, .slice A7 n7 c7, .slice A13 n13 c13] :: G) rfl ?_
  refine run ?_
  refine ay rfl (fun g19 => ?_) (fun g19 => ?_)
  ·replace h := ah g19 h
   refine run ?_
   refine gR (aC (us := [iV x12.1.Kind, iV x12.1.N, .string x12.1.S]) 1 rfl rfl ca rfl) ?_
   refine gR (aC (us := [iV x12.2.Kind, iV x12.2.N, .string x12.2.S]) 0 rfl rfl ca rfl) ?_
   refine gD (bm (R := aw) (vss := [[iV x12.1.Kind, iV x12.1.N, .string x12.1.S], [iV x12.2.Kind, iV x12.2.N, .string x12.2.S]]) (xs := [x12.1, x12.2]) rfl (FM _ _ _ _ _ _) rfl rfl (fun _ _ hr => .cons rfl (.cons rfl All2.nil))) ?_
   rintro _ _ ⟨A20, n20, c20, rfl, rfl⟩
   obtain ⟨q21, h⟩ := ap h
   refine gD (bF 6 0 rfl rfl aH rfl rfl Tryz.underlying25 Bt rfl rfl q21) ?_
   rintro _ _ ⟨A22, n22, c22, rfl, rfl⟩
   refine run ?_
   refine gO (ar (us := [.slice A22 n22 c22]) (cs' := [iV y6.Kind, iV y6.Shape, iV y6.Flags, iV y6.Age, .slice A7 n7 c7, .slice A22 n22 c22]) 7 rfl rfl rfl rfl iL rfl rfl rfl) ?_
   rintro _ _ rfl
   refine run ?_
   obtain ⟨rfl, rfl⟩ := Prod.mk.inj (Option.some.inj h)
   exact ux ((ad [3, 4, 5, 6, 7] 8 rfl rfl).trans (dF (A22, n22, c22) rfl))
  replace h := ai g19 h
  refine run ?_
  obtain ⟨rfl, rfl⟩ := Prod.mk.inj (Option.some.inj h)
  exact ux ((ad [2, 3, 4, 5, 6] 7 rfl rfl).trans (dF (A13, n13, c13) rfl))
 ·rintro ⟨A13, n13, c13⟩ h
  refine jZ (ag B4 123 [vf] :: ag B5 32 [iV 0, iV 0, iV 0, iV 0, .slice none 0 0, .slice none 0 0] :: bD A7 n7 c7 y6.Slots :: bD A13 n13 c13 y14.2 :: ag B9 32 [iV y6.Kind, iV y6.Shape, iV y6.Flags, iV y6.Age, .slice A7 n7 c7, .slice A13 n13 c13] :: G) rfl ?_
  refine run ?_
  refine gR (aC (us := [iV y6.Kind, iV y6.Shape, iV y6.Flags, iV y6.Age, .slice A7 n7 c7, .slice A13 n13 c13]) 4 rfl rfl bu rfl) ?_
  refine gO (ar (us := [iV y6.Kind, iV y6.Shape, iV y6.Flags, iV y6.Age, .slice A7 n7 c7, .slice A13 n13 c13]) (cs' := [iV y6.Kind, iV y6.Shape, iV y6.Flags, iV y6.Age, .slice A7 n7 c7, .slice A13 n13 c13]) 1 rfl rfl rfl rfl bz rfl rfl rfl) ?_
  rintro _ _ rfl
  refine bC (ag B4 123 [vf] :: ag B5 32 [iV y6.Kind, iV y6.Shape, iV y6.Flags, iV y6.Age, .slice A7 n7 c7, .slice A13 n13 c13] :: bD A7 n7 c7 y6.Slots :: bD A13 n13 c13 y14.2 :: ag B9 32 [iV y6.Kind, iV y6.Shape, iV y6.Flags, iV y6.Age, .slice A7 n7 c7, .slice A13 n13 c13] :: G) rfl ?_
  refine run ?_
  obtain rfl := aq h
  exact eP (rs := [.cell 4 32]) (vs := [.agg #[iV y6.Kind, iV y6.Shape, iV y6.Flags, iV y6.Age, .slice A7 n7 c7, .slice A13 n13 c13]]) rfl (.cons (dn 1 rfl rfl bu) .nil) rfl (kR [2, 3] 5 rfl rfl) ⟨_, _, _, _, _, _, rfl, rfl⟩
 ·rintro ⟨A13, n13, c13⟩ h
  exact aD h
 rintro i ⟨A13, n13, c13⟩ h
 exact aD h
theorem vT {r : DCell} : ∀ v post, ((fun (u : Value) (post : List Chunk) => ∃ A0 n0 c0 A1 n1 c1, u = .agg #[iV r.Kind, iV r.Shape, iV r.Flags, iV r.Age, .slice A0 n0 c0, .slice A1 n1 c1] ∧ post = [bD A0 n0 c0 r.Slots, bD A1 n1 c1 r.More])) v post → ∀ c ∈ post, cZ c := by
 rintro _ _ ⟨_, _, _, _, _, _, rfl, rfl⟩; exact mem_cons bS (mem_cons bS (ae))
def ir (N : Nat) (a0 : DCell) (a1 : (List Int)) : Option DCell :=
 (nX N a0).bind fun y7 => bif !y7 then (some (⟨0, 0, 0, 0, [], []⟩ : DCell)) else ((py N a0 (fun x => eU N x a1)).bind fun y11 => some y11)
theorem nJ {N : Nat} {a0 : DCell} {a1 : (List Int)} {r : DCell} (h : ir N a0 a1 = some r) : Okc Tryz.prog 80 [.agg #[iV a0.Kind, iV a0.Shape, iV a0.Flags, iV a0.Age, .slice A1 n1 c1, .slice A2 n2 c2], .slice A3 n3 c3] ([av A1 n1 c1 a0.Slots, av A2 n2 c2 a0.More, cm A3 n3 c3 a1]) (fun u post => ∃ A0 n0 c0 A1 n1 c1, u = .agg #[iV r.Kind, iV r.Shape, iV r.Flags, iV r.Age, .slice A0 n0 c0, .slice A1 n1 c1] ∧ post = [bD A0 n0 c0 r.Slots, bD A1 n1 c1 r.More]) := by
 refine bN Tryz.func80 rfl rfl ?_
 simp only [bc]
 refine run ?_
 refine gD (bo rfl rfl) ?_
 rintro _ _ ⟨B4, rfl, rfl⟩
 refine gD (bo rfl rfl) ?_
 rintro _ _ ⟨B5, rfl, rfl⟩
 refine gD (aJ dR rfl) ?_
 rintro _ _ ⟨B6, rfl, rfl⟩
 refine run ?_
 refine aB ?_
 refine run ?_
 refine gR (aC (us := [iV a0.Kind, iV a0.Shape, iV a0.Flags, iV a0.Age, .slice A1 n1 c1, .slice A2 n2 c2]) 2 rfl rfl bu rfl) ?_
 obtain ⟨y7, hy7, h⟩ := aa h
 refine gD (am (vU hy7) De rfl (mem_cons (aj (i := 3) rfl rfl) (mem_cons (aj (i := 4) rfl rfl) ae)) sD) ?_
 rintro _ _ ⟨_, ⟨rfl, rfl⟩, rfl⟩
 refine run ?_
 refine ay rfl (fun g8 => ?_) (fun g8 => ?_)
 ·replace h := ah g8 h
  refine run ?_
  refine gE (cU rfl (zY)) ?_
  refine gO (ar (us := [iV 0, iV 0, iV 0, iV 0, .slice none 0 0, .slice none 0 0]) (cs' := [iV 0, iV 0, iV 0, iV 0, .slice none 0 0, .slice none 0 0]) 0 rfl rfl rfl rfl bz rfl rfl rfl) ?_
  rintro _ _ rfl
  refine run ?_
  obtain rfl := aq h
  exact eP (rs := [.cell 4 32]) (vs := [.agg #[iV 0, iV 0, iV 0, iV 0, .slice none 0 0, .slice none 0 0]]) rfl (.cons (dn 0 rfl rfl bu) .nil) rfl ((cH aw 38 _).trans ((cH aw 38 _).trans (ad [1, 0] 8 rfl rfl))) ⟨_, _, _, _, _, _, rfl, rfl⟩
 replace h := ai g8 h
 refine run ?_
 refine gR (aC (us := [iV a0.Kind, iV a0.Shape, iV a0.Flags, iV a0.Age, .slice A1 n1 c1, .slice A2 n2 c2]) 2 rfl rfl bu rfl) ?_
 refine gE (dU rfl) ?_
 obtain ⟨y11, hy11, h⟩ := aa h
 refine gD (am (zf hy11 ⟨mem_cons rfl (mem_cons rfl ae), 134, #[], #[pV B5 0], rfl, GX, fun _ _ hh => tT hh⟩) GY rfl (mem_cons (aj (i := 3) rfl rfl) (mem_cons (aj (i := 4) rfl rfl) (mem_cons (fm (i := 1) rfl) (mem_cons (aj (i := 5) rfl rfl) ae)))) vT) ?_
 rintro _ _ ⟨_, ⟨A12, n12, c12, A13, n13, c13, rfl, rfl⟩, rfl⟩
 refine gO (ar (us := [iV y11.Kind, iV y11.Shape, iV y11.Flags, iV y11.Age, .slice A12 n12 c12, .slice A13 n13 c13]) (cs' := [iV y11.Kind, iV y11.Shape, iV y11.Flags, iV y11.Age, .slice A12 n12 c12, .slice A13 n13 c13]) 2 rfl rfl rfl rfl bz rfl rfl rfl) ?_
 rintro _ _ rfl
 refine run ?_
 obtain rfl := aq h
 exact eP (rs := [.cell 4 32]) (vs := [.agg #[iV y11.Kind, iV y11.Shape, iV y11.Flags, iV y11.Age, .slice A12 n12 c12, .slice A13 n13 c13]]) rfl (.cons (dn 2 rfl rfl bu) .nil) rfl (ad [0, 1] 8 rfl rfl) ⟨_, _, _, _, _, _, rfl, rfl⟩
theorem ln {r : DCell} : ∀ v post, ((fun (u : Value) (post : List Chunk) => ∃ A0 n0 c0 A1 n1 c1, u = .agg #[iV r.Kind, iV r.Shape, iV r.Flags, iV r.Age, .slice A0 n0 c0, .slice A1 n1 c1] ∧ post = [bD A0 n0 c0 r.Slots, bD A1 n1 c1 r.More])) v post → ∀ c ∈ post, cZ c := by
 rintro _ _ ⟨_, _, _, _, _, _, rfl, rfl⟩; exact mem_cons bS (mem_cons bS (ae))
def gx (N : Nat) (a0 : DCell) (a1 : (List Int)) : Option DCell :=
 (bif decide (a0.Kind = 8) then ((dP N a0).bind fun y7 => some y7) else (some false)).bind fun b6 => bif b6 then ((ir N a0 a1).bind fun y9 => some y9) else (some a0)
theorem og {N : Nat} {a0 : DCell} {a1 : (List Int)} {r : DCell} (h : gx N a0 a1 = some r) : Okc Tryz.prog 72 [.agg #[iV a0.Kind, iV a0.Shape, iV a0.Flags, iV a0.Age, .slice A1 n1 c1, .slice A2 n2 c2], .slice A3 n3 c3] ([av A1 n1 c1 a0.Slots, av A2 n2 c2 a0.More, cm A3 n3 c3 a1]) (fun u post => ∃ A0 n0 c0 A1 n1 c1, u = .agg #[iV r.Kind, iV r.Shape, iV r.Flags, iV r.Age, .slice A0 n0 c0, .slice A1 n1 c1] ∧ post = [av A0 n0 c0 r.Slots, av A1 n1 c1 r.More]) := by
 refine bN Tryz.func72 rfl rfl ?_
 simp only [bc]
 refine run ?_
 refine gD (bo rfl rfl) ?_
 rintro _ _ ⟨B4, rfl, rfl⟩
 refine gD (aJ dR rfl) ?_
 rintro _ _ ⟨B5, rfl, rfl⟩
 refine run ?_
 refine aB ?_
 refine run ?_
 obtain ⟨b6, hb6, h⟩ := aa h
 refine aX 3 11 b6 ?_ ?_
 ·clear h
  refine aY 8 rfl (fun g6 => ?_) (fun g6 => ?_)
  ·have h := ah g6 hb6
   refine cY (aC (us := [iV a0.Kind, iV a0.Shape, iV a0.Flags, iV a0.Age, .slice A1 n1 c1, .slice A2 n2 c2]) 1 rfl rfl bu rfl) rfl (bd g6 rfl) rfl ?_
   obtain ⟨y7, hy7, h⟩ := aa h
   refine dj (am (fD hy7) sq rfl (mem_cons (aj (i := 2) rfl rfl) (mem_cons (aj (i := 3) rfl rfl) ae)) ee) rfl (bd g6 rfl) rfl ?_
   rintro _ _ ⟨_, ⟨rfl, rfl⟩, rfl⟩
   refine run ?_
   obtain rfl := aq h
   exact ak sA (ad [0, 1, 2, 3, 4] 5 rfl rfl)
  have h := ai g6 hb6
  refine run ?_
  obtain rfl := aq h
  exact ak sA (ad [0, 1, 2, 3, 4] 5 rfl rfl)
 refine run ?_
 refine ay rfl (fun g8 => ?_) (fun g8 => ?_)
 ·replace h := ah g8 h
  refine run ?_
  refine gR (aC (us := [iV a0.Kind, iV a0.Shape, iV a0.Flags, iV a0.Age, .slice A1 n1 c1, .slice A2 n2 c2]) 1 rfl rfl bu rfl) ?_
  refine run ?_
  obtain ⟨y9, hy9, h⟩ := aa h
  refine gD (am (nJ hy9) Cr rfl (mem_cons (aj (i := 2) rfl rfl) (mem_cons (aj (i := 3) rfl rfl) (mem_cons (aj (i := 4) rfl rfl) ae))) ln) ?_
  rintro _ _ ⟨_, ⟨A10, n10, c10, A11, n11, c11, rfl, rfl⟩, rfl⟩
  refine gO (ar (us := [iV y9.Kind, iV y9.Shape, iV y9.Flags, iV y9.Age, .slice A10 n10 c10, .slice A11 n11 c11]) (cs' := [iV y9.Kind, iV y9.Shape, iV y9.Flags, iV y9.Age, .slice A10 n10 c10, .slice A11 n11 c11]) 2 rfl rfl rfl rfl bz rfl rfl rfl) ?_
  rintro _ _ rfl
  refine run ?_
  obtain rfl := aq h
  exact eP (rs := [.cell 4 32]) (vs := [.agg #[iV y9.Kind, iV y9.Shape, iV y9.Flags, iV y9.Age, .slice A10 n10 c10, .slice A11 n11 c11]]) rfl (.cons (dn 2 rfl rfl bu) .nil) rfl ((bV 0 rfl).trans ((bV 1 rfl).trans (ad [0, 1] 7 rfl rfl))) ⟨_, _, _, _, _, _, rfl, rfl⟩
 replace h := ai g8 h
 refine run ?_
 refine gR (aC (us := [iV a0.Kind, iV a0.Shape, iV a0.Flags, iV a0.Age, .slice A1 n1 c1, .slice A2 n2 c2]) 1 rfl rfl bu rfl) ?_
 refine gO (ar (us := [iV a0.Kind, iV a0.Shape, iV a0.Flags, iV a0.Age, .slice A1 n1 c1, .slice A2 n2 c2]) (cs' := [iV a0.Kind, iV a0.Shape, iV a0.Flags, iV a0.Age, .slice A1 n1 c1, .slice A2 n2 c2]) 0 rfl rfl rfl rfl bz rfl rfl rfl) ?_
 rintro _ _ rfl
 refine run ?_
 obtain rfl := aq h
 exact eP (rs := [.cell 4 32]) (vs := [.agg #[iV a0.Kind, iV a0.Shape, iV a0.Flags, iV a0.Age, .slice A1 n1 c1, .slice A2 n2 c2]]) rfl (.cons (dn 0 rfl rfl bu) .nil) rfl (ad [2, 3] 5 rfl rfl) ⟨_, _, _, _, _, _, rfl, rfl⟩
def pe (N : Nat) : Option Bool :=
 some true
def reach_Alike_l46 (N : Nat) (y24 : ((List Int))) (y9 : (DMemory)) (y14 : (DMemory)) (p31 : (List (Int × Int))) (p32 : (List (Int × Int))) : Nat → Int → (List Int) → (List Int) → Option Bool
 | 0, _, _, _ => none
 | m46 + 1, p47, p48, p49 => bif decide (p47 < (y24.length : Int)) then ((aG p48 p47).bind fun x51 => (eb N y9 x51).bind fun y52 => (gx N y52 p48).bind fun y57 => (aG p49 p47).bind fun x62 => (eb N y14 x62).bind fun y63 => (gx N y63 p49).bind fun y68 => (bif !decide (y57.Kind = y68.Kind) then (some true) else (some (!decide (y57.Shape = y68.Shape)))).bind fun b77 => (bif b77 then (some true) else (some (!decide (y57.Flags = y68.Flags)))).bind fun b78 => (bif b78 then (some true) else ((dm N (⟨y9, y14, p48, p49, p31, p32⟩ : DTwins) y57.Slots y68.Slots).bind fun y80 => some (!y80))).bind fun b79 => (bif b79 then (some true) else ((dm N (⟨y9, y14, p48, p49, p31, p32⟩ : DTwins) y57.More y68.More).bind fun y82 => some (!y82))).bind fun b81 => bif b81 then (some false) else (bM (in64 (p47 + 1)) ((reach_Alike_l46 N y24 y9 y14 p31 p32 m46) (p47 + 1) p48 p49))) else (pe N)
def lA (N : Nat) (a1 : (List DValue)) (a3 : (List DValue)) (y9 : (DMemory)) (y14 : (DMemory)) (y24 : ((List Int))) (y27 : ((List Int))) (p31 : (List (Int × Int))) (p32 : (List (Int × Int))) : Option Bool :=
 (dm N (⟨y9, y14, y24, y27, p31, p32⟩ : DTwins) a1 a3).bind fun y43 => bif !y43 then (some false) else (reach_Alike_l46 N y24 y9 y14 p31 p32 N 0 y24 y27)
def reach_Alike_l33 (N : Nat) (y24 : ((List Int))) (a1 : (List DValue)) (a3 : (List DValue)) (y9 : (DMemory)) (y14 : (DMemory)) (y27 : ((List Int))) : Nat → Int → (List (Int × Int)) → (List (Int × Int)) → Option Bool
 | 0, _, _, _ => none
 | m33 + 1, p34, p35, p36 => bif decide (p34 < (y24.length : Int)) then ((aG y24 p34).bind fun x38 => (aG y27 p34).bind fun x39 => bM (in64 (p34 + 1)) ((reach_Alike_l33 N y24 a1 a3 y9 y14 y27 m33) (p34 + 1) (na (rf p35 x38 0) x38 p34) (na (rf p36 x39 0) x39 p34))) else (lA N a1 a3 y9 y14 y24 y27 p35 p36)
def fx (N : Nat) (a0 : DMemory) (a1 : (List DValue)) (a2 : DMemory) (a3 : (List DValue)) : Option Bool :=
 (gh N a0).bind fun y9 => (gh N a2).bind fun y14 => (co N y9 a1).bind fun y24 => (co N y14 a3).bind fun y27 => bif !decide ((y24.length : Int) = (y27.length : Int)) then (some false) else (reach_Alike_l33 N y24 a1 a3 y9 y14 y27 N 0 ([] : (List (Int × Int))) ([] : (List (Int × Int))))
set_option maxHeartbeats 4000000 in
theorem wn {N : Nat} {a0 : DMemory} {a1 : (List DValue)} {a2 : DMemory} {a3 : (List DValue)} {r : Bool} (h : fx N a0 a1 a2 a3 = some r) : Okc Tryz.prog 28 [.agg #[.slice A1 n1 c1, .slice A2 n2 c2], .slice A3 n3 c3, .agg #[.slice A4 n4 c4, .slice A5 n5 c5], .slice A6 n6 c6] ([aF A1 n1 c1 a0.Young, aF A2 n2 c2 a0.Old, av A3 n3 c3 a1, aF A4 n4 c4 a2.Young, aF A5 n5 c5 a2.Old, av A6 n6 c6 a3]) (fun u post => u = .bool r ∧ post = []) := by
 refine bN Tryz.func28 rfl rfl ?_
 simp only [bc]
 refine run ?_
 refine gD (bo rfl rfl) ?_
 rintro _ _ ⟨B7, rfl, rfl⟩
 refine gD (bo rfl rfl) ?_
 rintro _ _ ⟨B8, rfl, rfl⟩
 refine run ?_
 refine aB ?_
 obtain ⟨y9, hy9, h⟩ := aa h
 obtain ⟨y14, hy14, h⟩ := aa h
 refine dK (t := [(1, .slice A3 n3 c3), (3, .slice A6 n6 c6), (4, pV B7 0), (6, pV B8 0), (8, .bool false)]) ?_ fU (ab _)
 refine d9 (by kernel_rfl) 6 [] [1, 3, 4, 5] [14, 15, 16, 17, 18, 19] [[], [0], [], [2], [], []] [aV (.agg #[.slice A1 n1 c1, .slice A2 n2 c2]),
 aX6 (fun (A12 : Option Addr) (n12 c12 : Nat) (A13 : Option Addr) (n13 c13 : Nat) => .agg #[.slice A12 n12 c12, .slice A13 n13 c13]) (fun A12 n12 c12 A13 n13 c13 => [cz A12 n12 c12 y9.Young, cz A13 n13 c13 y9.Old]),
 aV (.agg #[.slice A4 n4 c4, .slice A5 n5 c5]),
 aX6 (fun (A17 : Option Addr) (n17 c17 : Nat) (A18 : Option Addr) (n18 c18 : Nat) => .agg #[.slice A17 n17 c17, .slice A18 n18 c18]) (fun A17 n17 c17 A18 n18 c18 => [cz A17 n17 c17 y14.Young, cz A18 n18 c18 y14.Old]),
 aX1 (fun (M20 : Nat) => .map (some M20)) (fun M20 => [aN bQ iQ M20 ([] : (List (Int × Int)))]),
 aX1 (fun (M22 : Nat) => .map (some M22)) (fun M22 => [aN bQ iQ M22 ([] : (List (Int × Int)))])] [] (ab _) (fM) (by kernel_rfl) rfl rfl ?_ ?_ ?_
 ·exact fL
 ·refine ac rfl ?_ ?_
  ·refine eg (kq (ek := bQ) (ev := iQ)) rfl ?_
   rintro _ _ ⟨M21, rfl, rfl⟩
   exact AZ M21 (ab _)
  refine ac rfl ?_ ?_
  ·refine eg (kq (ek := bQ) (ev := iQ)) rfl ?_
   rintro _ _ ⟨M19, rfl, rfl⟩
   exact AZ M19 (ab _)
  refine ac rfl ?_ ?_
  ·refine eg (bH (rt hy14) FC rfl (be [5, 6] [] [0, 1, 2, 3, 4, 5, 6, 7] 8 rfl)) rfl ?_
   rintro _ _ ⟨_, ⟨A15, n15, c15, A16, n16, c16, rfl, rfl⟩, rfl⟩
   exact xl A15 n15 c15 A16 n16 c16 (ab _)
  refine ac rfl ?_ ?_
  ·exact cc (aC (us := [.slice A4 n4 c4, .slice A5 n5 c5]) 0 rfl rfl cN rfl) rfl (aA rfl (ab _))
  refine ac rfl ?_ ?_
  ·refine eg (bH (rt hy9) FC rfl (be [2, 3] [] [0, 1, 2, 3, 4, 5, 6, 7] 8 rfl)) rfl ?_
   rintro _ _ ⟨_, ⟨A10, n10, c10, A11, n11, c11, rfl, rfl⟩, rfl⟩
   exact xl A10 n10 c10 A11 n11 c11 (ab _)
  refine ac rfl ?_ ?_
  ·exact cc (aC (us := [.slice A1 n1 c1, .slice A2 n2 c2]) 1 rfl rfl cN rfl) rfl (aA rfl (ab _))
  exact cO
 intro A12 n12 c12 A13 n13 c13 A17 n17 c17 A18 n18 c18 M20 M22
 refine ip (t := [(15, .agg #[.slice A12 n12 c12, .slice A13 n13 c13]), (17, .agg #[.slice A17 n17 c17, .slice A18 n18 c18]), (18, .map (some M20)), (19, .map (some M22)), (1, .slice A3 n3 c3), (3, .slice A6 n6 c6), (4, pV B7 0), (6, pV B8 0), (8, .bool false)]) (L' := [cz A12 n12 c12 y9.Young, cz A13 n13 c13 y9.Old, cz A17 n17 c17 y14.Young, cz A18 n18 c18 y14.Old, aN bQ iQ M20 ([] : (List (Int × Int))), aN bQ iQ M22 ([] : (List (Int × Int))), ag B8 24 [.slice A4 n4 c4, .slice A5 n5 c5], ag B7 24 [.slice A1 n1 c1, .slice A2 n2 c2], aF A1 n1 c1 a0.Young, aF A2 n2 c2 a0.Old, av A3 n3 c3 a1, aF A4 n4 c4 a2.Young, aF A5 n5 c5 a2.Old, av A6 n6 c6 a3]) ?_ fU (ab _)
 refine mY 6 rfl (by kernel_rfl) (cU rfl (xu _ _ _ _ _ _ _ _ _ _ _ _ _ _)) rfl rfl rfl ?_
 refine nG 7 rfl (by kernel_rfl) (bo rfl rfl) rfl rfl rfl ?_
 rintro _ _ ⟨B23, rfl, rfl⟩
 refine mY 8 rfl (by kernel_rfl) (bw rfl) rfl rfl rfl ?_
 refine fT (by kernel_rfl) ?_
 refine lN ?_
 refine aB ?_
 obtain ⟨y24, hy24, h⟩ := aa h
 refine dK (t := [(1, .slice A3 n3 c3), (3, .slice A6 n6 c6), (8, .bool false), (9, pV B23 0)]) ?_ fU (ab _)
 refine d9 (by kernel_rfl) 13 [0, 1] [0, 1, 7, 11, 12] [22, 23, 24, 25, 26, 27, 28, 29, 30, 31, 32, 33, 34] [[], [], [], [2], [3], [4], [], [5, 6], [], [8], [9], [10], []] [aV (pV B23 0),
aV (pV B23 0),
aV (pV B23 0),
aV (pV B23 0),
aV (pV B23 0),
aV (.agg #[.slice A12 n12 c12, .slice A13 n13 c13]),
aV (.slice A3 n3 c3),
aX3 (fun (A26 : Option Addr) (n26 c26 : Nat) => .slice A26 n26 c26) (fun A26 n26 c26 => [br A26 n26 c26 y24]),
aV (pV B23 0),
aV (pV B23 0),
aV (pV B23 2),
aV (.agg #[.slice A17 n17 c17, .slice A18 n18 c18]),
aV (.slice A6 n6 c6)] [] (ab _) (iz rfl (iz rfl fM)) (by kernel_rfl) rfl rfl ?_ ?_ ?_
 ·refine iy rfl ?_ ?_
  ·exact oE (az rfl) rfl (aA rfl (ab _))
  refine iy rfl ?_ ?_
  ·exact oE (az rfl) rfl (aA rfl (ab _))
  exact fL
 ·refine ac rfl ?_ ?_
  ·exact aW (az rfl) rfl (aA rfl (ab _))
  refine ac rfl ?_ ?_
  ·exact cc (aC (us := [.slice A17 n17 c17, .slice A18 n18 c18]) 0 rfl rfl cN rfl) rfl (aA rfl (ab _))
  refine ac rfl ?_ ?_
  ·exact aW (cr rfl vB) rfl (aA rfl (ab _))
  refine ac rfl ?_ ?_
  ·exact aW (aZ rfl) rfl (aA rfl (ab _))
  refine ac rfl ?_ ?_
  ·exact aW (az rfl) rfl (aA rfl (ab _))
  refine ac rfl ?_ ?_
  ·refine eg (am (mo hy24) Cw rfl (mem_cons (aK (i := 1) rfl) (mem_cons (aK (i := 2) rfl) (mem_cons (aj (i := 11) rfl rfl) ae))) ki) rfl ?_
   rintro _ _ ⟨_, ⟨A25, n25, c25, rfl, rfl⟩, rfl⟩
   exact gX A25 n25 c25 (ab _)
  refine ac rfl ?_ ?_
  ·exact aW (az rfl) rfl (aA rfl (ab _))
  refine ac rfl ?_ ?_
  ·exact cc (aC (us := [.slice A12 n12 c12, .slice A13 n13 c13]) 0 rfl rfl cN rfl) rfl (aA rfl (ab _))
  refine ac rfl ?_ ?_
  ·exact aW (jm rfl vC) rfl (aA rfl (ab _))
  refine ac rfl ?_ ?_
  ·exact aW (aZ rfl) rfl (aA rfl (ab _))
  refine ac rfl ?_ ?_
  ·exact aW (az rfl) rfl (aA rfl (ab _))
  refine ac rfl ?_ ?_
  ·exact aW (az rfl) rfl (aA rfl (ab _))
  refine ac rfl ?_ ?_
  ·exact aW (az rfl) rfl (aA rfl (ab _))
  exact cO
 intro A26 n26 c26
 refine ip (t := [(22, pV B23 0), (23, pV B23 0), (29, .slice A26 n26 c26), (33, .agg #[.slice A17 n17 c17, .slice A18 n18 c18]), (34, .slice A6 n6 c6), (1, .slice A3 n3 c3), (3, .slice A6 n6 c6), (8, .bool false), (9, pV B23 0)]) (L' := [br A26 n26 c26 y24, ag B23 90 [.slice A12 n12 c12, .slice A13 n13 c13, .slice A17 n17 c17, .slice A18 n18 c18, .slice none 0 0, .slice none 0 0, .map (some M20), .map (some M22)], cz A12 n12 c12 y9.Young, cz A13 n13 c13 y9.Old, cz A17 n17 c17 y14.Young, cz A18 n18 c18 y14.Old, aN bQ iQ M20 ([] : (List (Int × Int))), aN bQ iQ M22 ([] : (List (Int × Int))), ag B8 24 [.slice A4 n4 c4, .slice A5 n5 c5], ag B7 24 [.slice A1 n1 c1, .slice A2 n2 c2], aF A1 n1 c1 a0.Young, aF A2 n2 c2 a0.Old, av A3 n3 c3 a1, aF A4 n4 c4 a2.Young, aF A5 n5 c5 a2.Old, av A6 n6 c6 a3]) ?_ fU (ab _)
 obtain ⟨y27, hy27, h⟩ := aa h
 refine nG 13 rfl (by kernel_rfl) (am (mo hy27) Cw rfl (mem_cons (aK (i := 4) rfl) (mem_cons (aK (i := 5) rfl) (mem_cons (aj (i := 15) rfl rfl) ae))) ki) rfl rfl rfl ?_
 rintro _ _ ⟨_, ⟨A28, n28, c28, rfl, rfl⟩, rfl⟩
 refine mY 14 rfl (by kernel_rfl) (aZ rfl) rfl rfl rfl ?_
 refine mY 15 rfl (by kernel_rfl) (cr rfl qQ) rfl rfl rfl ?_
 refine jY 16 rfl (by kernel_rfl) (ar (us := [.slice A26 n26 c26]) (cs' := [.slice A12 n12 c12, .slice A13 n13 c13, .slice A17 n17 c17, .slice A18 n18 c18, .slice A26 n26 c26, .slice none 0 0, .map (some M20), .map (some M22)]) 2 rfl rfl rfl rfl iK rfl rfl rfl) rfl rfl ?_
 rintro _ _ rfl
 refine mX ([br A28 n28 c28 y27, br A26 n26 c26 y24, ag B23 90 [.slice A12 n12 c12, .slice A13 n13 c13, .slice A17 n17 c17, .slice A18 n18 c18, .slice A26 n26 c26, .slice none 0 0, .map (some M20), .map (some M22)], cz A12 n12 c12 y9.Young, cz A13 n13 c13 y9.Old, cz A17 n17 c17 y14.Young, cz A18 n18 c18 y14.Old, aN bQ iQ M20 ([] : (List (Int × Int))), aN bQ iQ M22 ([] : (List (Int × Int))), ag B8 24 [.slice A4 n4 c4, .slice A5 n5 c5], ag B7 24 [.slice A1 n1 c1, .slice A2 n2 c2], aF A1 n1 c1 a0.Young, aF A2 n2 c2 a0.Old, av A3 n3 c3 a1, aF A4 n4 c4 a2.Young, aF A5 n5 c5 a2.Old, av A6 n6 c6 a3]) rfl ?_
 refine mY 17 rfl (by kernel_rfl) (aZ rfl) rfl rfl rfl ?_
 refine mY 18 rfl (by kernel_rfl) (cr rfl qP) rfl rfl rfl ?_
 refine jY 19 rfl (by kernel_rfl) (ar (us := [.slice A28 n28 c28]) (cs' := [.slice A12 n12 c12, .slice A13 n13 c13, .slice A17 n17 c17, .slice A18 n18 c18, .slice A26 n26 c26, .slice A28 n28 c28, .map (some M20), .map (some M22)]) 2 rfl rfl rfl rfl iK rfl rfl rfl) rfl rfl ?_
 rintro _ _ rfl
 refine mX ([br A28 n28 c28 y27, br A26 n26 c26 y24, ag B23 90 [.slice A12 n12 c12, .slice A13 n13 c13, .slice A17 n17 c17, .slice A18 n18 c18, .slice A26 n26 c26, .slice A28 n28 c28, .map (some M20), .map (some M22)], cz A12 n12 c12 y9.Young, cz A13 n13 c13 y9.Old, cz A17 n17 c17 y14.Young, cz A18 n18 c18 y14.Old, aN bQ iQ M20 ([] : (List (Int × Int))), aN bQ iQ M22 ([] : (List (Int × Int))), ag B8 24 [.slice A4 n4 c4, .slice A5 n5 c5], ag B7 24 [.slice A1 n1 c1, .slice A2 n2 c2], aF A1 n1 c1 a0.Young, aF A2 n2 c2 a0.Old, av A3 n3 c3 a1, aF A4 n4 c4 a2.Young, aF A5 n5 c5 a2.Old, av A6 n6 c6 a3]) rfl ?_
 refine fT (by kernel_rfl) ?_
 refine lN ?_
 refine aB ?_
 refine aB ?_
 refine dB (by kernel_rfl) _ (ab _) ?_
 refine aI 0 rfl (by kernel_rfl) (az rfl) rfl rfl ?_
 refine aI 1 rfl (by kernel_rfl) (aZ rfl) rfl rfl ?_
 refine aI 2 rfl (by kernel_rfl) (cr rfl qQ) rfl rfl ?_
 refine bv 3 rfl (by kernel_rfl) (aO 2 rfl rfl dE rfl) rfl rfl ?_
 refine bv 4 rfl (by kernel_rfl) (aL 1 rfl aH rfl Tryz.underlying35) rfl rfl ?_
 refine aI 5 rfl (by kernel_rfl) (az rfl) rfl rfl ?_
 refine aI 6 rfl (by kernel_rfl) (aZ rfl) rfl rfl ?_
 refine aI 7 rfl (by kernel_rfl) (cr rfl qP) rfl rfl ?_
 refine bv 8 rfl (by kernel_rfl) (aO 2 rfl rfl dE rfl) rfl rfl ?_
 refine bv 9 rfl (by kernel_rfl) (aL 0 rfl aH rfl Tryz.underlying35) rfl rfl ?_
 refine aI 10 rfl (by kernel_rfl) (Fl rfl rfl) rfl rfl ?_
 refine dA (by kernel_rfl) ?_
 refine lN ?_
 refine ay rfl (fun g29 => ?_) (fun g29 => ?_)
 ·replace h := ah g29 h
  refine run ?_
  obtain rfl := aq h
  exact aQ rfl rfl (ad [] 17 rfl rfl) ⟨rfl, rfl⟩
 replace h := ai g29 h
 refine run ?_
 refine aS (fun s L => ∃ p31 p32, lA N a1 a3 y9 y14 y24 y27 p31 p32 = some r ∧ s = [(1, .slice A3 n3 c3), (3, .slice A6 n6 c6), (8, .bool false), (9, pV B23 0)] ∧ L = [av A3 n3 c3 a1, av A6 n6 c6 a3, cz A12 n12 c12 y9.Young, cz A13 n13 c13 y9.Old, cz A17 n17 c17 y14.Young, cz A18 n18 c18 y14.Old, br A26 n26 c26 y24, br A28 n28 c28 y27, aN bQ iQ M20 p31, aN bQ iQ M22 p32, ag B23 90 [.slice A12 n12 c12, .slice A13 n13 c13, .slice A17 n17 c17, .slice A18 n18 c18, .slice A26 n26 c26, .slice A28 n28 c28, .map (some M20), .map (some M22)]]) ?_ ?_
 ·refine run ?_
  refine gR (aL 1 rfl aH rfl Tryz.underlying35) ?_
  refine run ?_
  refine bp (fun m s L => ∃ p34 p35 p36, reach_Alike_l33 N y24 a1 a3 y9 y14 y27 m p34 p35 p36 = some r ∧ s = [(1, .slice A3 n3 c3), (3, .slice A6 n6 c6), (8, .bool false), (9, pV B23 0), (55, iV (y24.length : Int)), (56, iV p34)] ∧ L = [av A3 n3 c3 a1, av A6 n6 c6 a3, cz A12 n12 c12 y9.Young, cz A13 n13 c13 y9.Old, cz A17 n17 c17 y14.Young, cz A18 n18 c18 y14.Old, br A26 n26 c26 y24, br A28 n28 c28 y27, aN bQ iQ M20 p35, aN bQ iQ M22 p36, ag B23 90 [.slice A12 n12 c12, .slice A13 n13 c13, .slice A17 n17 c17, .slice A18 n18 c18, .slice A26 n26 c26, .slice A28 n28 c28, .map (some M20), .map (some M22)]]) N _ _ ⟨0, ([] : (List (Int × Int))), ([] : (List (Int × Int))), h, rfl, rfl⟩ sA (ad [13, 16, 3, 4, 5, 6, 1, 0, 7, 8, 2] 17 rfl rfl) ?_
  rintro (_ | m33) _ _ ⟨p34, p35, p36, h, rfl, rfl⟩
  ·exact aD h
  rw [reach_Alike_l33.eq_2] at h
  refine run ?_
  refine aB ?_
  refine ay rfl (fun g37 => ?_) (fun g37 => ?_)
  ·replace h := ah g37 h
   refine run ?_
   refine aB ?_
   refine run ?_
   refine dB (by kernel_rfl) ([av A3 n3 c3 a1, av A6 n6 c6 a3, cz A12 n12 c12 y9.Young, cz A13 n13 c13 y9.Old, cz A17 n17 c17 y14.Young, cz A18 n18 c18 y14.Old, br A26 n26 c26 y24, br A28 n28 c28 y27, ag B23 90 [.slice A12 n12 c12, .slice A13 n13 c13, .slice A17 n17 c17, .slice A18 n18 c18, .slice A26 n26 c26, .slice A28 n28 c28, .map (some M20), .map (some M22)]]) (ad [0, 1, 2, 3, 4, 5, 6, 7, 10] 11 rfl rfl) ?_
   refine aI 0 rfl (by kernel_rfl) (az rfl) rfl rfl ?_
   refine aI 1 rfl (by kernel_rfl) (aZ rfl) rfl rfl ?_
   refine aI 2 rfl (by kernel_rfl) (cr rfl CZ) rfl rfl ?_
   refine bv 3 rfl (by kernel_rfl) (aO 8 rfl rfl rG rfl) rfl rfl ?_
   refine aI 4 rfl (by kernel_rfl) (az rfl) rfl rfl ?_
   refine aI 5 rfl (by kernel_rfl) (aZ rfl) rfl rfl ?_
   refine aI 6 rfl (by kernel_rfl) (cr rfl qQ) rfl rfl ?_
   refine bv 7 rfl (by kernel_rfl) (aO 8 rfl rfl dE rfl) rfl rfl ?_
   refine aI 8 rfl (by kernel_rfl) (az rfl) rfl rfl ?_
   obtain ⟨x38, hx38, h⟩ := aa h
   obtain ⟨lx38, ux38, hx38⟩ := au hx38
   refine bv 9 rfl (by kernel_rfl) (aM 6 rfl aH rfl rfl Tryz.underlying35 dD lx38 ux38) rfl rfl ?_
   refine bv 10 rfl (by kernel_rfl) (bK (u := iV x38) 6 rfl aH rfl hx38 eo (fun _ _ _ h => by rw [show _ = _ from h]; rfl)) rfl rfl ?_
   refine aI 11 rfl (by kernel_rfl) (az rfl) rfl rfl ?_
   refine aI 12 rfl (by kernel_rfl) (aZ rfl) rfl rfl ?_
   refine aI 13 rfl (by kernel_rfl) (cr rfl CY) rfl rfl ?_
   refine bv 14 rfl (by kernel_rfl) (aO 8 rfl rfl rG rfl) rfl rfl ?_
   refine aI 15 rfl (by kernel_rfl) (az rfl) rfl rfl ?_
   refine aI 16 rfl (by kernel_rfl) (aZ rfl) rfl rfl ?_
   refine aI 17 rfl (by kernel_rfl) (cr rfl qP) rfl rfl ?_
   refine bv 18 rfl (by kernel_rfl) (aO 8 rfl rfl dE rfl) rfl rfl ?_
   refine aI 19 rfl (by kernel_rfl) (az rfl) rfl rfl ?_
   obtain ⟨x39, hx39, h⟩ := aa h
   obtain ⟨lx39, ux39, hx39⟩ := au hx39
   refine bv 20 rfl (by kernel_rfl) (aM 7 rfl aH rfl rfl Tryz.underlying35 dD lx39 ux39) rfl rfl ?_
   refine bv 21 rfl (by kernel_rfl) (bK (u := iV x39) 7 rfl aH rfl hx39 eo (fun _ _ _ h => by rw [show _ = _ from h]; rfl)) rfl rfl ?_
   refine aI 22 rfl (by kernel_rfl) (az rfl) rfl rfl ?_
   refine aI 23 rfl (by kernel_rfl) (az rfl) rfl rfl ?_
   refine gt 24 rfl (by kernel_rfl) (uK (a := x38) (z := 0) 8 rfl rfl rfl Tryz.underlying88 (cB Tryz.underlying3) uy) rfl rfl rfl ?_
   rintro _ _ ⟨n40, rfl, rfl⟩
   refine ⟨[av A3 n3 c3 a1, av A6 n6 c6 a3, cz A12 n12 c12 y9.Young, cz A13 n13 c13 y9.Old, cz A17 n17 c17 y14.Young, cz A18 n18 c18 y14.Old, br A26 n26 c26 y24, br A28 n28 c28 y27, ag B23 90 [.slice A12 n12 c12, .slice A13 n13 c13, .slice A17 n17 c17, .slice A18 n18 c18, .slice A26 n26 c26, .slice A28 n28 c28, .map (some M20), .map (some M22)]], ad [0, 1, 2, 3, 4, 5, 6, 7, 10] 11 rfl rfl, ab _, ?_⟩
   refine fF ([av A3 n3 c3 a1, av A6 n6 c6 a3, cz A12 n12 c12 y9.Young, cz A13 n13 c13 y9.Old, cz A17 n17 c17 y14.Young, cz A18 n18 c18 y14.Old, br A26 n26 c26 y24, br A28 n28 c28 y27, D9 bQ iQ M20 (rf p35 x38 0) x38 n40, aN bQ iQ M22 p36, ag B23 90 [.slice A12 n12 c12, .slice A13 n13 c13, .slice A17 n17 c17, .slice A18 n18 c18, .slice A26 n26 c26, .slice A28 n28 c28, .map (some M20), .map (some M22)]]) rfl ?_
   refine aI 25 rfl (by kernel_rfl) (bG rfl rfl) rfl rfl ?_
   refine qq 26 rfl (by kernel_rfl) (rE (b := p34) 8 rfl rfl rfl rfl) rfl rfl ?_
   rintro _ _ rfl
   refine ⟨[av A3 n3 c3 a1, av A6 n6 c6 a3, cz A12 n12 c12 y9.Young, cz A13 n13 c13 y9.Old, cz A17 n17 c17 y14.Young, cz A18 n18 c18 y14.Old, br A26 n26 c26 y24, br A28 n28 c28 y27, ag B23 90 [.slice A12 n12 c12, .slice A13 n13 c13, .slice A17 n17 c17, .slice A18 n18 c18, .slice A26 n26 c26, .slice A28 n28 c28, .map (some M20), .map (some M22)]], ad [0, 1, 2, 3, 4, 5, 6, 7, 10] 11 rfl rfl, ab _, ?_⟩
   refine fF ([av A3 n3 c3 a1, av A6 n6 c6 a3, cz A12 n12 c12 y9.Young, cz A13 n13 c13 y9.Old, cz A17 n17 c17 y14.Young, cz A18 n18 c18 y14.Old, br A26 n26 c26 y24, br A28 n28 c28 y27, aN bQ iQ M20 (na (rf p35 x38 0) x38 p34), aN bQ iQ M22 p36, ag B23 90 [.slice A12 n12 c12, .slice A13 n13 c13, .slice A17 n17 c17, .slice A18 n18 c18, .slice A26 n26 c26, .slice A28 n28 c28, .map (some M20), .map (some M22)]]) rfl ?_
   refine gt 27 rfl (by kernel_rfl) (uK (a := x39) (z := 0) 9 rfl rfl rfl Tryz.underlying88 (cB Tryz.underlying3) uy) rfl rfl rfl ?_
   rintro _ _ ⟨n41, rfl, rfl⟩
   refine ⟨[av A3 n3 c3 a1, av A6 n6 c6 a3, cz A12 n12 c12 y9.Young, cz A13 n13 c13 y9.Old, cz A17 n17 c17 y14.Young, cz A18 n18 c18 y14.Old, br A26 n26 c26 y24, br A28 n28 c28 y27, ag B23 90 [.slice A12 n12 c12, .slice A13 n13 c13, .slice A17 n17 c17, .slice A18 n18 c18, .slice A26 n26 c26, .slice A28 n28 c28, .map (some M20), .map (some M22)]], ad [0, 1, 2, 3, 4, 5, 6, 7, 10] 11 rfl rfl, ab _, ?_⟩
   refine fF ([av A3 n3 c3 a1, av A6 n6 c6 a3, cz A12 n12 c12 y9.Young, cz A13 n13 c13 y9.Old, cz A17 n17 c17 y14.Young, cz A18 n18 c18 y14.Old, br A26 n26 c26 y24, br A28 n28 c28 y27, aN bQ iQ M20 (na (rf p35 x38 0) x38 p34), D9 bQ iQ M22 (rf p36 x39 0) x39 n41, ag B23 90 [.slice A12 n12 c12, .slice A13 n13 c13, .slice A17 n17 c17, .slice A18 n18 c18, .slice A26 n26 c26, .slice A28 n28 c28, .map (some M20), .map (some M22)]]) rfl ?_
   refine aI 28 rfl (by kernel_rfl) (bG rfl rfl) rfl rfl ?_
   refine qq 29 rfl (by kernel_rfl) (rE (b := p34) 9 rfl rfl rfl rfl) rfl rfl ?_
   rintro _ _ rfl
   refine ⟨[av A3 n3 c3 a1, av A6 n6 c6 a3, cz A12 n12 c12 y9.Young, cz A13 n13 c13 y9.Old, cz A17 n17 c17 y14.Young, cz A18 n18 c18 y14.Old, br A26 n26 c26 y24, br A28 n28 c28 y27, ag B23 90 [.slice A12 n12 c12, .slice A13 n13 c13, .slice A17 n17 c17, .slice A18 n18 c18, .slice A26 n26 c26, .slice A28 n28 c28, .map (some M20), .map (some M22)]], ad [0, 1, 2, 3, 4, 5, 6, 7, 10] 11 rfl rfl, ab _, ?_⟩
   refine fF ([av A3 n3 c3 a1, av A6 n6 c6 a3, cz A12 n12 c12 y9.Young, cz A13 n13 c13 y9.Old, cz A17 n17 c17 y14.Young, cz A18 n18 c18 y14.Old, br A26 n26 c26 y24, br A28 n28 c28 y27, aN bQ iQ M20 (na (rf p35 x38 0) x38 p34), aN bQ iQ M22 (na (rf p36 x39 0) x39 p34), ag B23 90 [.slice A12 n12 c12, .slice A13 n13 c13, .slice A17 n17 c17, .slice A18 n18 c18, .slice A26 n26 c26, .slice A28 n28 c28, .map (some M20), .map (some M22)]]) rfl ?_
   refine dA (by kernel_rfl) ?_
   refine run ?_
   obtain ⟨q42, h⟩ := ap h
   refine gE (aR rfl rfl q42.1 q42.2) ?_
   refine run ?_
   exact ⟨m33, _, _, Nat.lt_succ_self _, ⟨p34 + 1, na (rf p35 x38 0) x38 p34, na (rf p36 x39 0) x39 p34, h, rfl, rfl⟩, sA, ad [0, 1, 2, 3, 4, 5, 6, 7, 8, 9, 10] 11 rfl rfl⟩
  replace h := ai g37 h
  refine run ?_
  exact ⟨_, _, ⟨p35, p36, h, rfl, rfl⟩, sA, ad [0, 1, 2, 3, 4, 5, 6, 7, 8, 9, 10] 11 rfl rfl⟩
 rintro _ _ ⟨p31, p32, h, rfl, rfl⟩
 refine aB ?_
 refine run ?_
 obtain ⟨y43, hy43, h⟩ := aa h
 refine gD (am (gM hy43) Ct rfl (mem_cons (fm (i := 10) rfl) (mem_cons (aK (i := 2) rfl) (mem_cons (aK (i := 3) rfl) (mem_cons (aK (i := 4) rfl) (mem_cons (aK (i := 5) rfl) (mem_cons (aK (i := 6) rfl) (mem_cons (aK (i := 7) rfl) (mem_cons (fN (i := 8) rfl) (mem_cons (fN (i := 9) rfl) (mem_cons (aj (i := 0) rfl rfl) (mem_cons (aj (i := 1) rfl rfl) ae))))))))))) fJ) ?_
 rintro _ _ ⟨_, ⟨rfl, rfl⟩, rfl⟩
 refine run ?_
 refine ay rfl (fun g44 => ?_) (fun g44 => ?_)
 ·replace h := ah g44 h
  refine run ?_
  obtain rfl := aq h
  exact aQ rfl rfl (ad [] 11 rfl rfl) ⟨rfl, rfl⟩
 replace h := ai g44 h
 refine run ?_
 refine aS (fun s L => pe N = some r ∧ s = [(8, .bool false)] ∧ L = []) ?_ ?_
 ·refine run ?_
  refine gR (aO 10 rfl rfl dE rfl) ?_
  refine gR (aL 6 rfl aH rfl Tryz.underlying35) ?_
  refine run ?_
  refine bp (fun m s L => ∃ p47 p48 p49 A48 n48 c48 A49 n49 c49, reach_Alike_l46 N y24 y9 y14 p31 p32 m p47 p48 p49 = some r ∧ s = [(8, .bool false), (9, pV B23 0), (97, iV (y24.length : Int)), (98, iV p47)] ∧ L = [cz A12 n12 c12 y9.Young, cz A13 n13 c13 y9.Old, cz A17 n17 c17 y14.Young, cz A18 n18 c18 y14.Old, cm A48 n48 c48 p48, cm A49 n49 c49 p49, aN bQ iQ M20 p31, aN bQ iQ M22 p32, ag B23 90 [.slice A12 n12 c12, .slice A13 n13 c13, .slice A17 n17 c17, .slice A18 n18 c18, .slice A48 n48 c48, .slice A49 n49 c49, .map (some M20), .map (some M22)]]) N _ _ ⟨0, y24, y27, A26, n26, c26, A28, n28, c28, h, rfl, rfl⟩ sA ((bV 6 rfl).trans ((bV 7 rfl).trans (ad [2, 3, 4, 5, 6, 7, 8, 9, 10] 11 rfl rfl))) ?_
  rintro (_ | m46) _ _ ⟨p47, p48, p49, A48, n48, c48, A49, n49, c49, h, rfl, rfl⟩
  ·exact aD h
  rw [reach_Alike_l46.eq_2] at h
  refine run ?_
  refine aB ?_
  refine ay rfl (fun g50 => ?_) (fun g50 => ?_)
  ·replace h := ah g50 h
   refine run ?_
   refine aB ?_
   refine run ?_
   refine aB ?_
   obtain ⟨x51, hx51, h⟩ := aa h
   obtain ⟨lx51, ux51, hx51⟩ := au hx51
   obtain ⟨y52, hy52, h⟩ := aa h
   obtain ⟨y57, hy57, h⟩ := aa h
   obtain ⟨x62, hx62, h⟩ := aa h
   obtain ⟨lx62, ux62, hx62⟩ := au hx62
   obtain ⟨y63, hy63, h⟩ := aa h
   obtain ⟨y68, hy68, h⟩ := aa h
   refine dK (t := [(8, .bool false), (9, pV B23 0), (11, iV p47), (97, iV (y24.length : Int)), (98, iV p47)]) ?_ fU (ab _)
   refine d9 (by kernel_rfl) 36 [] [16, 33, 34, 35] [101, 102, 103, 104, 105, 106, 107, 108, 109, 110, 111, 112, 113, 114, 115, 116, 117, 118, 119, 120, 121, 122, 123, 124, 125, 126, 127, 128, 129, 130, 131, 132, 133, 134, 12, 13] [[], [0], [1], [2], [], [4], [5], [6], [], [7, 8], [9], [3, 10], [], [12], [13], [14], [11, 15], [], [17], [18], [19], [], [21], [22], [23], [], [24, 25], [26], [20, 27], [], [29], [30], [31], [28, 32], [], []] [aV (pV B23 0),
aV (pV B23 0),
aV (pV B23 0),
aV (.agg #[.slice A12 n12 c12, .slice A13 n13 c13]),
aV (pV B23 0),
aV (pV B23 0),
aV (pV B23 4),
aV (.slice A48 n48 c48),
aV (iV p47),
aV (cA (.slice A48 n48 c48) p47.toNat 1 0),
aV (iV x51),
aX6 (fun (A55 : Option Addr) (n55 c55 : Nat) (A56 : Option Addr) (n56 c56 : Nat) => .agg #[iV y52.Kind, iV y52.Shape, iV y52.Flags, iV y52.Age, .slice A55 n55 c55, .slice A56 n56 c56]) (fun A55 n55 c55 A56 n56 c56 => [av A55 n55 c55 y52.Slots, av A56 n56 c56 y52.More]),
aV (pV B23 0),
aV (pV B23 0),
aV (pV B23 4),
aV (.slice A48 n48 c48),
aX6 (fun (A60 : Option Addr) (n60 c60 : Nat) (A61 : Option Addr) (n61 c61 : Nat) => .agg #[iV y57.Kind, iV y57.Shape, iV y57.Flags, iV y57.Age, .slice A60 n60 c60, .slice A61 n61 c61]) (fun A60 n60 c60 A61 n61 c61 => [av A60 n60 c60 y57.Slots, av A61 n61 c61 y57.More]),
aV (pV B23 0),
aV (pV B23 0),
aV (pV B23 2),
aV (.agg #[.slice A17 n17 c17, .slice A18 n18 c18]),
aV (pV B23 0),
aV (pV B23 0),
aV (pV B23 5),
aV (.slice A49 n49 c49),
aV (iV p47),
aV (cA (.slice A49 n49 c49) p47.toNat 1 0),
aV (iV x62),
aX6 (fun (A66 : Option Addr) (n66 c66 : Nat) (A67 : Option Addr) (n67 c67 : Nat) => .agg #[iV y63.Kind, iV y63.Shape, iV y63.Flags, iV y63.Age, .slice A66 n66 c66, .slice A67 n67 c67]) (fun A66 n66 c66 A67 n67 c67 => [av A66 n66 c66 y63.Slots, av A67 n67 c67 y63.More]),
aV (pV B23 0),
aV (pV B23 0),
aV (pV B23 5),
aV (.slice A49 n49 c49),
aX6 (fun (A71 : Option Addr) (n71 c71 : Nat) (A72 : Option Addr) (n72 c72 : Nat) => .agg #[iV y68.Kind, iV y68.Shape, iV y68.Flags, iV y68.Age, .slice A71 n71 c71, .slice A72 n72 c72]) (fun A71 n71 c71 A72 n72 c72 => [av A71 n71 c71 y68.Slots, av A72 n72 c72 y68.More]),
aX1 (fun (B74 : Nat) => pV B74 0) (fun B74 => [ag B74 32 [iV 0, iV 0, iV 0, iV 0, .slice none 0 0, .slice none 0 0]]),
aX1 (fun (B76 : Nat) => pV B76 0) (fun B76 => [ag B76 32 [iV 0, iV 0, iV 0, iV 0, .slice none 0 0, .slice none 0 0]])] [] (ab _) (fM) (by kernel_rfl) rfl rfl ?_ ?_ ?_
   ·exact fL
   ·refine ac rfl ?_ ?_
    ·refine eg (aJ dR rfl) rfl ?_
     rintro _ _ ⟨B75, rfl, rfl⟩
     exact AZ B75 (ab _)
    refine ac rfl ?_ ?_
    ·refine eg (aJ dR rfl) rfl ?_
     rintro _ _ ⟨B73, rfl, rfl⟩
     exact AZ B73 (ab _)
    refine ac rfl ?_ ?_
    ·intro A66 n66 c66 A67 n67 c67
     refine eg (bH (og hy68) FB rfl (be [0, 1, 7] [] [0, 1, 2, 3, 4, 5, 6, 7, 8, 9, 10] 11 rfl)) rfl ?_
     rintro _ _ ⟨_, ⟨A69, n69, c69, A70, n70, c70, rfl, rfl⟩, rfl⟩
     exact xl A69 n69 c69 A70 n70 c70 (ab _)
    refine ac rfl ?_ ?_
    ·exact cc (aO 8 rfl rfl dE rfl) rfl (aA rfl (ab _))
    refine ac rfl ?_ ?_
    ·exact aW (cr rfl qP) rfl (aA rfl (ab _))
    refine ac rfl ?_ ?_
    ·exact aW (aZ rfl) rfl (aA rfl (ab _))
    refine ac rfl ?_ ?_
    ·exact aW (az rfl) rfl (aA rfl (ab _))
    refine ac rfl ?_ ?_
    ·refine eg (am (kY hy63) xq rfl (mem_cons (aK (i := 2) rfl) (mem_cons (aK (i := 3) rfl) ae)) iU) rfl ?_
     rintro _ _ ⟨_, ⟨A64, n64, c64, A65, n65, c65, rfl, rfl⟩, rfl⟩
     exact xl A64 n64 c64 A65 n65 c65 ((bV 0 rfl).trans ((bV 1 rfl).trans (ab _)))
    refine ac rfl ?_ ?_
    ·exact cc (bK (u := iV x62) 5 rfl ao rfl hx62 eo (fun _ _ _ h => by rw [show _ = _ from h]; rfl)) rfl (aA rfl (ab _))
    refine ac rfl ?_ ?_
    ·exact cc (aM 5 rfl ao rfl rfl Tryz.underlying35 dD lx62 ux62) rfl (aA rfl (ab _))
    refine ac rfl ?_ ?_
    ·exact aW (az rfl) rfl (aA rfl (ab _))
    refine ac rfl ?_ ?_
    ·exact cc (aO 8 rfl rfl dE rfl) rfl (aA rfl (ab _))
    refine ac rfl ?_ ?_
    ·exact aW (cr rfl qP) rfl (aA rfl (ab _))
    refine ac rfl ?_ ?_
    ·exact aW (aZ rfl) rfl (aA rfl (ab _))
    refine ac rfl ?_ ?_
    ·exact aW (az rfl) rfl (aA rfl (ab _))
    refine ac rfl ?_ ?_
    ·exact cc (aC (us := [.slice A17 n17 c17, .slice A18 n18 c18]) 8 rfl rfl cN rfl) rfl (aA rfl (ab _))
    refine ac rfl ?_ ?_
    ·exact aW (cr rfl vB) rfl (aA rfl (ab _))
    refine ac rfl ?_ ?_
    ·exact aW (aZ rfl) rfl (aA rfl (ab _))
    refine ac rfl ?_ ?_
    ·exact aW (az rfl) rfl (aA rfl (ab _))
    refine ac rfl ?_ ?_
    ·intro A55 n55 c55 A56 n56 c56
     refine eg (bH (og hy57) FB rfl (be [0, 1, 6] [] [0, 1, 2, 3, 4, 5, 6, 7, 8, 9, 10] 11 rfl)) rfl ?_
     rintro _ _ ⟨_, ⟨A58, n58, c58, A59, n59, c59, rfl, rfl⟩, rfl⟩
     exact xl A58 n58 c58 A59 n59 c59 (ab _)
    refine ac rfl ?_ ?_
    ·exact cc (aO 8 rfl rfl dE rfl) rfl (aA rfl (ab _))
    refine ac rfl ?_ ?_
    ·exact aW (cr rfl qQ) rfl (aA rfl (ab _))
    refine ac rfl ?_ ?_
    ·exact aW (aZ rfl) rfl (aA rfl (ab _))
    refine ac rfl ?_ ?_
    ·exact aW (az rfl) rfl (aA rfl (ab _))
    refine ac rfl ?_ ?_
    ·refine eg (am (kY hy52) xq rfl (mem_cons (aK (i := 0) rfl) (mem_cons (aK (i := 1) rfl) ae)) iU) rfl ?_
     rintro _ _ ⟨_, ⟨A53, n53, c53, A54, n54, c54, rfl, rfl⟩, rfl⟩
     exact xl A53 n53 c53 A54 n54 c54 ((bV 0 rfl).trans ((bV 1 rfl).trans (ab _)))
    refine ac rfl ?_ ?_
    ·exact cc (bK (u := iV x51) 4 rfl ao rfl hx51 eo (fun _ _ _ h => by rw [show _ = _ from h]; rfl)) rfl (aA rfl (ab _))
    refine ac rfl ?_ ?_
    ·exact cc (aM 4 rfl ao rfl rfl Tryz.underlying35 dD lx51 ux51) rfl (aA rfl (ab _))
    refine ac rfl ?_ ?_
    ·exact aW (az rfl) rfl (aA rfl (ab _))
    refine ac rfl ?_ ?_
    ·exact cc (aO 8 rfl rfl dE rfl) rfl (aA rfl (ab _))
    refine ac rfl ?_ ?_
    ·exact aW (cr rfl qQ) rfl (aA rfl (ab _))
    refine ac rfl ?_ ?_
    ·exact aW (aZ rfl) rfl (aA rfl (ab _))
    refine ac rfl ?_ ?_
    ·exact aW (az rfl) rfl (aA rfl (ab _))
    refine ac rfl ?_ ?_
    ·exact cc (aC (us := [.slice A12 n12 c12, .slice A13 n13 c13]) 8 rfl rfl cN rfl) rfl (aA rfl (ab _))
    refine ac rfl ?_ ?_
    ·exact aW (jm rfl vC) rfl (aA rfl (ab _))
    refine ac rfl ?_ ?_
    ·exact aW (aZ rfl) rfl (aA rfl (ab _))
    refine ac rfl ?_ ?_
    ·exact aW (az rfl) rfl (aA rfl (ab _))
    exact cO
   intro A60 n60 c60 A61 n61 c61 A71 n71 c71 A72 n72 c72 B74 B76
   refine ip (t := [(117, .agg #[iV y57.Kind, iV y57.Shape, iV y57.Flags, iV y57.Age, .slice A60 n60 c60, .slice A61 n61 c61]), (134, .agg #[iV y68.Kind, iV y68.Shape, iV y68.Flags, iV y68.Age, .slice A71 n71 c71, .slice A72 n72 c72]), (12, pV B74 0), (13, pV B76 0), (8, .bool false), (9, pV B23 0), (11, iV p47), (97, iV (y24.length : Int)), (98, iV p47)]) (L' := [av A60 n60 c60 y57.Slots, av A61 n61 c61 y57.More, av A71 n71 c71 y68.Slots, av A72 n72 c72 y68.More, ag B74 32 [iV 0, iV 0, iV 0, iV 0, .slice none 0 0, .slice none 0 0], ag B76 32 [iV 0, iV 0, iV 0, iV 0, .slice none 0 0, .slice none 0 0], cz A12 n12 c12 y9.Young, cz A13 n13 c13 y9.Old, cz A17 n17 c17 y14.Young, cz A18 n18 c18 y14.Old, cm A48 n48 c48 p48, cm A49 n49 c49 p49, aN bQ iQ M20 p31, aN bQ iQ M22 p32, ag B23 90 [.slice A12 n12 c12, .slice A13 n13 c13, .slice A17 n17 c17, .slice A18 n18 c18, .slice A48 n48 c48, .slice A49 n49 c49, .map (some M20), .map (some M22)]]) ?_ fU (ab _)
   refine jY 36 rfl (by kernel_rfl) (ar (us := [iV y57.Kind, iV y57.Shape, iV y57.Flags, iV y57.Age, .slice A60 n60 c60, .slice A61 n61 c61]) (cs' := [iV y57.Kind, iV y57.Shape, iV y57.Flags, iV y57.Age, .slice A60 n60 c60, .slice A61 n61 c61]) 4 rfl rfl rfl rfl bz rfl rfl rfl) rfl rfl ?_
   rintro _ _ rfl
   refine mX ([av A60 n60 c60 y57.Slots, av A61 n61 c61 y57.More, av A71 n71 c71 y68.Slots, av A72 n72 c72 y68.More, ag B74 32 [iV y57.Kind, iV y57.Shape, iV y57.Flags, iV y57.Age, .slice A60 n60 c60, .slice A61 n61 c61], ag B76 32 [iV 0, iV 0, iV 0, iV 0, .slice none 0 0, .slice none 0 0], cz A12 n12 c12 y9.Young, cz A13 n13 c13 y9.Old, cz A17 n17 c17 y14.Young, cz A18 n18 c18 y14.Old, cm A48 n48 c48 p48, cm A49 n49 c49 p49, aN bQ iQ M20 p31, aN bQ iQ M22 p32, ag B23 90 [.slice A12 n12 c12, .slice A13 n13 c13, .slice A17 n17 c17, .slice A18 n18 c18, .slice A48 n48 c48, .slice A49 n49 c49, .map (some M20), .map (some M22)]]) rfl ?_
   refine jY 37 rfl (by kernel_rfl) (ar (us := [iV y68.Kind, iV y68.Shape, iV y68.Flags, iV y68.Age, .slice A71 n71 c71, .slice A72 n72 c72]) (cs' := [iV y68.Kind, iV y68.Shape, iV y68.Flags, iV y68.Age, .slice A71 n71 c71, .slice A72 n72 c72]) 5 rfl rfl rfl rfl bz rfl rfl rfl) rfl rfl ?_
   rintro _ _ rfl
   refine mX ([av A60 n60 c60 y57.Slots, av A61 n61 c61 y57.More, av A71 n71 c71 y68.Slots, av A72 n72 c72 y68.More, ag B74 32 [iV y57.Kind, iV y57.Shape, iV y57.Flags, iV y57.Age, .slice A60 n60 c60, .slice A61 n61 c61], ag B76 32 [iV y68.Kind, iV y68.Shape, iV y68.Flags, iV y68.Age, .slice A71 n71 c71, .slice A72 n72 c72], cz A12 n12 c12 y9.Young, cz A13 n13 c13 y9.Old, cz A17 n17 c17 y14.Young, cz A18 n18 c18 y14.Old, cm A48 n48 c48 p48, cm A49 n49 c49 p49, aN bQ iQ M20 p31, aN bQ iQ M22 p32, ag B23 90 [.slice A12 n12 c12, .slice A13 n13 c13, .slice A17 n17 c17, .slice A18 n18 c18, .slice A48 n48 c48, .slice A49 n49 c49, .map (some M20), .map (some M22)]]) rfl ?_
   refine fT (by kernel_rfl) ?_
   refine run ?_
   obtain ⟨b77, hb77, h⟩ := aa h
   refine aX 6 146 b77 ?_ ?_
   ·clear h
    refine aY 140 rfl (fun g77 => ?_) (fun g77 => ?_)
    ·have h := ah g77 hb77
     refine run ?_
     obtain rfl := aq h
     exact ak sA (ad [0, 1, 2, 3, 4, 5, 6, 7, 8, 9, 10, 11, 12, 13, 14] 15 rfl rfl)
    have h := ai g77 hb77
    refine run ?_
    obtain rfl := aq h
    exact ak sA (ad [0, 1, 2, 3, 4, 5, 6, 7, 8, 9, 10, 11, 12, 13, 14] 15 rfl rfl)
   refine run ?_
   obtain ⟨b78, hb78, h⟩ := aa h
   refine aX 6 153 b78 ?_ ?_
   ·clear h
    refine aY 147 rfl (fun g78 => ?_) (fun g78 => ?_)
    ·have h := ah g78 hb78
     refine run ?_
     obtain rfl := aq h
     exact ak sA (ad [0, 1, 2, 3, 4, 5, 6, 7, 8, 9, 10, 11, 12, 13, 14] 15 rfl rfl)
    have h := ai g78 hb78
    refine run ?_
    obtain rfl := aq h
    exact ak sA (ad [0, 1, 2, 3, 4, 5, 6, 7, 8, 9, 10, 11, 12, 13, 14] 15 rfl rfl)
   refine run ?_
   obtain ⟨b79, hb79, h⟩ := aa h
   refine aX 8 162 b79 ?_ ?_
   ·clear h
    refine aY 154 rfl (fun g79 => ?_) (fun g79 => ?_)
    ·have h := ah g79 hb79
     refine run ?_
     obtain rfl := aq h
     exact ak sA (ad [0, 1, 2, 3, 4, 5, 6, 7, 8, 9, 10, 11, 12, 13, 14] 15 rfl rfl)
    have h := ai g79 hb79
    refine run ?_
    obtain ⟨y80, hy80, h⟩ := aa h
    refine dj (am (gM hy80) Ct rfl (mem_cons (fm (i := 14) rfl) (mem_cons (aK (i := 6) rfl) (mem_cons (aK (i := 7) rfl) (mem_cons (aK (i := 8) rfl) (mem_cons (aK (i := 9) rfl) (mem_cons (aj (i := 10) rfl rfl) (mem_cons (aj (i := 11) rfl rfl) (mem_cons (fN (i := 12) rfl) (mem_cons (fN (i := 13) rfl) (mem_cons (aj (i := 0) rfl rfl) (mem_cons (aj (i := 2) rfl rfl) ae))))))))))) fJ) rfl (gm g79 rfl) rfl ?_
    rintro _ _ ⟨_, ⟨rfl, rfl⟩, rfl⟩
    refine run ?_
    obtain rfl := aq h
    exact ak sA (ad [0, 1, 2, 3, 4, 5, 6, 7, 8, 9, 10, 11, 12, 13, 14] 15 rfl rfl)
   refine run ?_
   obtain ⟨b81, hb81, h⟩ := aa h
   refine aX 8 171 b81 ?_ ?_
   ·clear h
    refine aY 163 rfl (fun g81 => ?_) (fun g81 => ?_)
    ·have h := ah g81 hb81
     refine run ?_
     obtain rfl := aq h
     exact ak sA (ad [0, 1, 2, 3, 4, 5, 6, 7, 8, 9, 10, 11, 12, 13, 14] 15 rfl rfl)
    have h := ai g81 hb81
    refine run ?_
    obtain ⟨y82, hy82, h⟩ := aa h
    refine dj (am (gM hy82) Ct rfl (mem_cons (fm (i := 14) rfl) (mem_cons (aK (i := 6) rfl) (mem_cons (aK (i := 7) rfl) (mem_cons (aK (i := 8) rfl) (mem_cons (aK (i := 9) rfl) (mem_cons (aj (i := 10) rfl rfl) (mem_cons (aj (i := 11) rfl rfl) (mem_cons (fN (i := 12) rfl) (mem_cons (fN (i := 13) rfl) (mem_cons (aj (i := 1) rfl rfl) (mem_cons (aj (i := 3) rfl rfl) ae))))))))))) fJ) rfl (gm g81 rfl) rfl ?_
    rintro _ _ ⟨_, ⟨rfl, rfl⟩, rfl⟩
    refine run ?_
    obtain rfl := aq h
    exact ak sA (ad [0, 1, 2, 3, 4, 5, 6, 7, 8, 9, 10, 11, 12, 13, 14] 15 rfl rfl)
   refine run ?_
   refine ay rfl (fun g83 => ?_) (fun g83 => ?_)
   ·replace h := ah g83 h
    refine run ?_
    obtain rfl := aq h
    exact aQ rfl rfl (ad [] 15 rfl rfl) ⟨rfl, rfl⟩
   replace h := ai g83 h
   refine run ?_
   obtain ⟨q84, h⟩ := ap h
   refine gE (aR rfl rfl q84.1 q84.2) ?_
   refine run ?_
   exact ⟨m46, _, _, Nat.lt_succ_self _, ⟨p47 + 1, p48, p49, A48, n48, c48, A49, n49, c49, h, rfl, rfl⟩, sA, ad [6, 7, 8, 9, 10, 11, 12, 13, 14] 15 rfl rfl⟩
  replace h := ai g50 h
  refine run ?_
  exact ⟨_, _, ⟨h, rfl, rfl⟩, sA, ad [] 9 rfl rfl⟩
 rintro _ _ ⟨h, rfl, rfl⟩
 refine run ?_
 obtain rfl := aq h
 exact aQ rfl rfl (ad [] 0 rfl rfl) ⟨rfl, rfl⟩
theorem t8 {r : Bool} : ∀ v post, ((fun (u : Value) (post : List Chunk) => u = .bool r ∧ post = [])) v post → ∀ c ∈ post, cZ c := by
 rintro _ _ ⟨rfl, rfl⟩; exact ae
def zn (N : Nat) (p4 : (List DCell)) : Option (List DCell) :=
 some p4
def nM (N : Nat) (kb5 : (List DCell) → Int → Option (List DCell)) (p7 : Int) (a0 : (List DCell)) (p6 : (List DCell)) (x9 : DCell) (p15 : (List DValue)) : Option (List DCell) :=
 bM (cD (p6.length + ([(⟨x9.Kind, x9.Shape, x9.Flags, x9.Age, x9.Slots, p15⟩ : DCell)] : List DCell).length)) (bM (in64 (p7 + 1)) (kb5 (p6 ++ ([(⟨x9.Kind, x9.Shape, x9.Flags, x9.Age, x9.Slots, p15⟩ : DCell)] : List DCell)) (p7 + 1)))
def r19_short_l5 (N : Nat) (a0 : (List DCell)) : Nat → (List DCell) → Int → Option (List DCell)
 | 0, _, _ => none
 | m5 + 1, p6, p7 => bif decide (p7 < (a0.length : Int)) then ((aG a0 p7).bind fun x9 => (bif decide (x9.Kind = 10) then ((cQ N x9).bind fun y17 => some y17) else (some false)).bind fun b16 => bif b16 then (bM ((0 : Int) ≤ 1 ∧ 0 ≤ (1 : Int).toNat ∧ (1 : Int).toNat ≤ x9.More.length) (nM N (r19_short_l5 N a0 m5) p7 a0 p6 x9 ((x9.More.drop 0).take ((1 : Int).toNat - 0)))) else (nM N (r19_short_l5 N a0 m5) p7 a0 p6 x9 x9.More)) else (zn N p6)
def np (N : Nat) (a0 : (List DCell)) : Option (List DCell) :=
 r19_short_l5 N a0 N ([] : List DCell) 0
def kj (N : Nat) (a0 : DMemory) (a1 : (List DValue)) : Option DSide :=
 (np N a0.Young).bind fun y6 => (np N a0.Old).bind fun y9 => (fX N (⟨y6, y9⟩ : DMemory) a1).bind fun y11 => some (⟨(⟨y6, y9⟩ : DMemory), y11⟩ : DSide)
end Go.Proofs.YtmbaennilhdieaaGreat
namespace Go.Proofs.YtmbaennilhdieaaGreat
variable {A1 A10 A11 A2 A3 A4 A5 A6 A7 : Option Addr} {B1 M8 M9 c1 c10 c11 c2 c3 c4 c5 c6 c7 n1 n10 n11 n2 n3 n4 n5 n6 n7 : Nat}
open Go.RowKit Asn
set_option maxRecDepth 20000
def zo (N : Nat) : Option Int :=
 some (-1)
def r19_place_l3 (N : Nat) (a1 : Int) (a0 : (List Int)) : Nat → Int → Option Int
 | 0, _ => none
 | m3 + 1, p4 => bif decide (p4 < (a0.length : Int)) then ((aG a0 p4).bind fun x6 => bif decide (x6 = a1) then (some p4) else (bM (in64 (p4 + 1)) ((r19_place_l3 N a1 a0 m3) (p4 + 1)))) else (zo N)
def nq (N : Nat) (a0 : (List Int)) (a1 : Int) : Option Int :=
 r19_place_l3 N a1 a0 N 0
def ws (N : Nat) : Option Bool :=
 some true
def r19_values_l13 (N : Nat) (a1 : (List DValue)) (a3 : (List DValue)) (a0 : DSide) (a2 : DSide) : Nat → Int → Option Bool
 | 0, _ => none
 | m13 + 1, p14 => bif decide (p14 < (a1.length : Int)) then ((aG a1 p14).bind fun x16 => (bif decide (x16.Kind = 7) then (some true) else ((aG a1 p14).bind fun x18 => some (decide (x18.Kind = 9)))).bind fun b17 => (bif !b17 then ((aG a1 p14).bind fun x20 => (aG a3 p14).bind fun x21 => some (!decide (x20 = x21))) else (some false)).bind fun b19 => bif b19 then (some false) else ((bif b17 then ((aG a1 p14).bind fun x24 => (aG a3 p14).bind fun x25 => (bif !decide (x24.Kind = x25.Kind) then (some true) else ((aG a1 p14).bind fun x27 => (aG a3 p14).bind fun x28 => some (!(x27.S.toList == x28.S.toList)))).bind fun b26 => (bif b26 then (some true) else ((aG a1 p14).bind fun x30 => (aG a3 p14).bind fun x31 => (kl N a0.M x30.N).bind fun y32 => (kl N a2.M x31.N).bind fun y33 => some (!(y32 == y33)))).bind fun b29 => some b29) else (some false)).bind fun b23 => bif b23 then (some false) else ((bif b17 then ((aG a1 p14).bind fun x36 => (kl N a0.M x36.N).bind fun y37 => some y37) else (some false)).bind fun b35 => (bif b35 then ((aG a1 p14).bind fun x39 => (aG a3 p14).bind fun x40 => (nq N a0.Order x39.N).bind fun y41 => (nq N a2.Order x40.N).bind fun y42 => some (!decide (y41 = y42))) else (some false)).bind fun b38 => bif b38 then (some false) else (bM (in64 (p14 + 1)) ((r19_values_l13 N a1 a3 a0 a2 m13) (p14 + 1)))))) else (ws N)
def gj (N : Nat) (a0 : DSide) (a1 : (List DValue)) (a2 : DSide) (a3 : (List DValue)) : Option Bool :=
 bif !decide ((a1.length : Int) = (a3.length : Int)) then (some false) else (r19_values_l13 N a1 a3 a0 a2 N 0)
def oR (N : Nat) (a0 : DCell) : Option DCell :=
 bM (cD (([] : List DValue).length + a0.Slots.length)) (bM (cD (([] : List DValue).length + a0.More.length)) (some (⟨a0.Kind, a0.Shape, a0.Flags, a0.Age, ([] : List DValue) ++ a0.Slots, ([] : List DValue) ++ a0.More⟩ : DCell)))
def pf (N : Nat) (y6 : (DCell)) (p11 : (List DValue)) : Option DCell :=
 some (⟨y6.Kind, y6.Shape, y6.Flags, y6.Age, y6.Slots, p11⟩ : DCell)
def lB (N : Nat) (kb12 : Int → (List DValue) → Option DCell) (p13 : Int) (a1 : (List Bool)) (a0 : DCell) (y6 : (DCell)) (p18 : (List DValue)) : Option DCell :=
 bM (in64 (p13 + 1)) (kb12 (p13 + 1) p18)
def r17_without_l12 (N : Nat) (a1 : (List Bool)) (a0 : DCell) (y6 : (DCell)) : Nat → Int → (List DValue) → Option DCell
 | 0, _, _ => none
 | m12 + 1, p13, p14 => bif decide (p13 < (a1.length : Int)) then ((aG a1 p13).bind fun x19 => bif x19 then (bM (in64 (2 * p13)) ((aG a0.More (2 * p13)).bind fun x22 => bM (in64 (2 * p13)) (bM (in64 ((2 * p13) + 1)) ((aG a0.More ((2 * p13) + 1)).bind fun x25 => bM (cD (p14.length + ([x22, x25] : List DValue).length)) (lB N (r17_without_l12 N a1 a0 y6 m12) p13 a1 a0 y6 (p14 ++ ([x22, x25] : List DValue))))))) else (lB N (r17_without_l12 N a1 a0 y6 m12) p13 a1 a0 y6 p14)) else (pf N y6 p14)
def rC (N : Nat) (a0 : DCell) (a1 : (List Bool)) : Option DCell :=
 (oR N a0).bind fun y6 => r17_without_l12 N a1 a0 y6 N 0 []
def nO (N : Nat) (a0 : DCell) (p11 : (List Bool)) : Option DCell :=
 (rC N a0 p11).bind fun y23 => some y23
def r17_Clean_l12 (N : Nat) (a1 : (List Int)) (a0 : DCell) : Nat → (List Bool) → Int → Option DCell
 | 0, _, _ => none
 | m12 + 1, p13, p14 => bif decide (p14 < (a0.More.length : Int)) then ((aG a0.More p14).bind fun x17 => (sR N x17.N a1).bind fun y18 => bM (cD (p13.length + ([y18] : List Bool).length)) (bM (in64 (p14 + 2)) ((r17_Clean_l12 N a1 a0 m12) (p13 ++ ([y18] : List Bool)) (p14 + 2)))) else (nO N a0 p13)
def pR (N : Nat) (a0 : DCell) (a1 : (List Int)) : Option DCell :=
 (sQ N a0).bind fun y6 => bif !y6 then (some (⟨0, 0, 0, 0, [], []⟩ : DCell)) else (r17_Clean_l12 N a1 a0 N [] 0)
def kH (N : Nat) (a0 : DCell) (a1 : (List Int)) : Option DCell :=
 (bif decide (a0.Kind = 8) then ((cQ N a0).bind fun y7 => some y7) else (some false)).bind fun b6 => bif b6 then ((pR N a0 a1).bind fun y9 => some y9) else (some a0)
def xG (N : Nat) : Option Bool :=
 some true
def r19_Alike_l23 (N : Nat) : Nat → Int → (List DCell) → (List DCell) → (List Int) → (List DCell) → (List DCell) → (List Int) → Option Bool
 | 0, _, _, _, _, _, _, _ => none
 | m23 + 1, p24, p25, p26, p27, p28, p29, p30 => bif decide (p24 < (p27.length : Int)) then ((aG p27 p24).bind fun x32 => (la N (⟨p25, p26⟩ : DMemory) x32).bind fun y33 => (kH N y33 p27).bind fun y38 => (aG p30 p24).bind fun x45 => (la N (⟨p28, p29⟩ : DMemory) x45).bind fun y46 => (kH N y46 p30).bind fun y51 => (bif !decide (y38.Kind = y51.Kind) then (some true) else (some (!decide (y38.Shape = y51.Shape)))).bind fun b58 => (bif b58 then (some true) else (some (!decide (y38.Flags = y51.Flags)))).bind fun b59 => (bif b59 then (some true) else ((gj N (⟨(⟨p25, p26⟩ : DMemory), p27⟩ : DSide) y38.Slots (⟨(⟨p28, p29⟩ : DMemory), p30⟩ : DSide) y51.Slots).bind fun y61 => some (!y61))).bind fun b60 => (bif b60 then (some true) else ((gj N (⟨(⟨p25, p26⟩ : DMemory), p27⟩ : DSide) y38.More (⟨(⟨p28, p29⟩ : DMemory), p30⟩ : DSide) y51.More).bind fun y63 => some (!y63))).bind fun b62 => bif b62 then (some false) else (bM (in64 (p24 + 1)) ((r19_Alike_l23 N m23) (p24 + 1) p25 p26 p27 p28 p29 p30))) else (xG N)
def nr (N : Nat) (a0 : DMemory) (a1 : (List DValue)) (a2 : DMemory) (a3 : (List DValue)) : Option Bool :=
 (kj N a0 a1).bind fun y9 => (kj N a2 a3).bind fun y14 => (bif !decide ((y9.Order.length : Int) = (y14.Order.length : Int)) then (some true) else ((gj N y9 a1 y14 a3).bind fun y20 => some (!y20))).bind fun b19 => bif b19 then (some false) else (r19_Alike_l23 N N 0 y9.M.Young y9.M.Old y9.Order y14.M.Young y14.M.Old y14.Order)
def dL (N : Nat) (a0 : (List DValue)) : Option DCell :=
 some (⟨11, 0, 0, 0, [], a0⟩ : DCell)
theorem eH {N : Nat} {a0 : (List DValue)} {r : DCell} (h : dL N a0 = some r) : Okc Tryz.prog 76 [.slice A1 n1 c1] ([av A1 n1 c1 a0]) (fun u post => ∃ A0 n0 c0 A1 n1 c1, u = .agg #[iV r.Kind, iV r.Shape, iV r.Flags, iV r.Age, .slice A0 n0 c0, .slice A1 n1 c1] ∧ post = [av A0 n0 c0 r.Slots, av A1 n1 c1 r.More]) := by
 refine bN Tryz.func76 rfl rfl ?_
 simp only [bc]
 refine run ?_
 refine gD (aJ dR rfl) ?_
 rintro _ _ ⟨B2, rfl, rfl⟩
 refine run ?_
 refine gE (cU rfl (Cz _ _ _ _)) ?_
 refine gO (ar (us := [iV 11, iV 0, iV 0, iV 0, .slice none 0 0, .slice A1 n1 c1]) (cs' := [iV 11, iV 0, iV 0, iV 0, .slice none 0 0, .slice A1 n1 c1]) 0 rfl rfl rfl rfl bz rfl rfl rfl) ?_
 rintro _ _ rfl
 refine run ?_
 obtain rfl := aq h
 exact eP (rs := [.cell 2 32]) (vs := [.agg #[iV 11, iV 0, iV 0, iV 0, .slice none 0 0, .slice A1 n1 c1]]) rfl (.cons (dn 0 rfl rfl bu) .nil) rfl ((nB aw _).trans (ad [0, 2] 3 rfl rfl)) ⟨_, _, _, _, _, _, rfl, rfl⟩
def cg (N : Nat) (a0 : Int) : Option DValue :=
 some (⟨7, a0, ⟨#[]⟩⟩ : DValue)
theorem dg {N : Nat} {a0 : Int} {r : DValue} (h : cg N a0 = some r) : Okc Tryz.prog 77 [iV a0] ([]) (fun u post => u = .agg #[iV r.Kind, iV r.N, .string r.S] ∧ post = []) := by
 refine bN Tryz.func77 rfl rfl ?_
 simp only [bc]
 refine run ?_
 refine gD (aJ f4 rfl) ?_
 rintro _ _ ⟨B1, rfl, rfl⟩
 refine run ?_
 refine gE (cU rfl (sr _ _)) ?_
 refine gO (ar (us := [iV 7, iV a0, .string (⟨#[]⟩)]) (cs' := [iV 7, iV a0, .string (⟨#[]⟩)]) 0 rfl rfl rfl rfl bh rfl rfl rfl) ?_
 rintro _ _ rfl
 refine run ?_
 obtain rfl := aq h
 exact eP (rs := [.cell 2 38]) (vs := [.agg #[iV 7, iV a0, .string (⟨#[]⟩)]]) rfl (.cons (dn 0 rfl rfl ca) .nil) rfl (ad [] 1 rfl rfl) ⟨rfl, rfl⟩
theorem cE {r : DValue} : ∀ v post, ((fun (u : Value) (post : List Chunk) => u = .agg #[iV r.Kind, iV r.N, .string r.S] ∧ post = [])) v post → ∀ c ∈ post, cZ c := by
 rintro _ _ ⟨rfl, rfl⟩; exact ae
def jM (N : Nat) {σ : Type} (kb4 : Int → Int → σ → Option σ) (fy : (Int × Int) → σ → Option (Bool × σ)) (p6 : Int) (a1 : (List Int)) (p10 : Int) (p11 : σ) : Option σ :=
 bM (in64 (p6 + 1)) (kb4 p10 (p6 + 1) p11)
def gl (N : Nat) {σ : Type} (kb4 : Int → Int → σ → Option σ) (kb13 : Int → Int → σ → Option σ) (fy : (Int × Int) → σ → Option (Bool × σ)) (x12 : Int) (p6 : Int) (a1 : (List Int)) (p15 : Int) (p19 : Int) (p20 : σ) : Option σ :=
 bM (in64 (p15 + 1)) (kb13 p19 (p15 + 1) p20)
def major_order_c1_l13 (N : Nat) {σ : Type} (kb4 : Int → Int → σ → Option σ) (fy : (Int × Int) → σ → Option (Bool × σ)) (x12 : Int) (p6 : Int) (a1 : (List Int)) : Nat → Int → Int → σ → Option σ
 | 0, _, _, _ => none
 | m13 + 1, p14, p15, p16 => bif decide (p15 < (a1.length : Int)) then ((aG a1 p15).bind fun x21 => bif !decide (x21.tmod 2 = x12) then (gl N kb4 (major_order_c1_l13 N kb4 fy x12 p6 a1 m13) fy x12 p6 a1 p15 p14 p16) else ((fy (p14, x21) p16).bind fun y23 => bif !y23.1 then (some y23.2) else (bM (in64 (p14 + 1)) (gl N kb4 (major_order_c1_l13 N kb4 fy x12 p6 a1 m13) fy x12 p6 a1 p15 (p14 + 1) y23.2)))) else (jM N kb4 fy p6 a1 p14 p16)
def major_order_c1_l4 (N : Nat) {σ : Type} (fy : (Int × Int) → σ → Option (Bool × σ)) (a1 : (List Int)) : Nat → Int → Int → σ → Option σ
 | 0, _, _, _ => none
 | m4 + 1, p5, p6, p7 => bif decide (p6 < (([0, 1] : List Int).length : Int)) then ((aG ([0, 1] : List Int) p6).bind fun x12 => major_order_c1_l13 N (major_order_c1_l4 N fy a1 m4) fy x12 p6 a1 N p5 0 p7) else (some p7)
def ex (N : Nat) {σ : Type} (a1 : (List Int)) (fy : (Int × Int) → σ → Option (Bool × σ)) (s0 : σ) : Option σ :=
 major_order_c1_l4 N fy a1 N 0 0 s0
theorem jL {N : Nat} {σ : Type} {a1 : (List Int)} {fy : (Int × Int) → σ → Option (Bool × σ)} {s0 : σ} {r : σ} (h : ex N a1 fy s0 = some r) {l : Nat} {G : σ → List Chunk} (hY : nF Tryz.prog l G (fun x => [iV x.1, iV x.2]) fy) : Okc Tryz.prog 131 [.func (.yield l) #[] #[], pV B1 0] (bU B1 35 [.slice A2 n2 c2] :: cm A2 n2 c2 a1 :: (G s0)) (fun u post => u = .tuple #[] ∧ post = G r) := by
 refine bN Tryz.func131 rfl rfl ?_
 simp only [bc]
 refine run ?_
 refine gD (bm (R := (dS .i64)) (vss := [[iV 0], [iV 1]]) (xs := [0, 1]) rfl (xt _ _) rfl rfl (fun _ _ hr => .cons rfl (.cons rfl All2.nil))) ?_
 rintro _ _ ⟨A3, n3, c3, rfl, rfl⟩
 refine gR (aL 0 rfl aH rfl Tryz.underlying35) ?_
 refine run ?_
 refine bp (fun m s L => ∃ p5 p6 p7, major_order_c1_l4 N fy a1 m p5 p6 p7 = some r ∧ s = [(0, .func (.yield l) #[] #[]), (1, pV B1 0), (3, iV p5), (8, .slice A3 n3 c3), (9, iV (([0, 1] : List Int).length : Int)), (10, iV p6)] ∧ L = br A3 n3 c3 ([0, 1] : List Int) :: cm A2 n2 c2 a1 :: bU B1 35 [.slice A2 n2 c2] :: (G p7)) N _ _ ⟨0, 0, s0, h, rfl, rfl⟩ sA (ad [0, 2, 1] 3 rfl rfl) ?_
 rintro (_ | m4) _ _ ⟨p5, p6, p7, h, rfl, rfl⟩
 ·exact aD h
 rw [major_order_c1_l4.eq_2] at h
 refine run ?_
 refine aB ?_
 refine ay rfl (fun g8 => ?_) (fun g8 => ?_)
 ·replace h := ah g8 h
  refine run ?_
  refine aS (fun s L => ∃ p10 p11, jM N (major_order_c1_l4 N fy a1 m4) fy p6 a1 p10 p11 = some r ∧ s = [(0, .func (.yield l) #[] #[]), (1, pV B1 0), (3, iV p10), (8, .slice A3 n3 c3), (9, iV (([0, 1] : List Int).length : Int)), (10, iV p6)] ∧ L = br A3 n3 c3 ([0, 1] : List Int) :: cm A2 n2 c2 a1 :: bU B1 35 [.slice A2 n2 c2] :: (G p11)) ?_ ?_
  ·refine run ?_
   obtain ⟨x12, hx12, h⟩ := aa h
   obtain ⟨lx12, ux12, hx12⟩ := au hx12
   refine gR (aM 0 rfl aH rfl rfl Tryz.underlying35 dD lx12 ux12) ?_
   refine gR (bK (u := iV x12) 0 rfl aH rfl hx12 eo (fun _ _ _ h => by rw [show _ = _ from h]; rfl)) ?_
   refine run ?_
   refine gR (ci 2 rfl rfl dE rfl) ?_
   refine gR (aL 1 rfl ao rfl Tryz.underlying35) ?_
   refine run ?_
   refine bp (fun m s L => ∃ p14 p15 p16, major_order_c1_l13 N (major_order_c1_l4 N fy a1 m4) fy x12 p6 a1 m p14 p15 p16 = some r ∧ s = [(0, .func (.yield l) #[] #[]), (1, pV B1 0), (3, iV p14), (5, iV x12), (8, .slice A3 n3 c3), (9, iV (([0, 1] : List Int).length : Int)), (10, iV p6), (14, .slice A2 n2 c2), (15, iV (a1.length : Int)), (16, iV p15)] ∧ L = br A3 n3 c3 ([0, 1] : List Int) :: cm A2 n2 c2 a1 :: bU B1 35 [.slice A2 n2 c2] :: (G p16)) N _ _ ⟨p5, 0, p7, h, rfl, rfl⟩ sA (ad [0, 1, 2] 3 rfl rfl) ?_
   rintro (_ | m13) _ _ ⟨p14, p15, p16, h, rfl, rfl⟩
   ·exact aD h
   rw [major_order_c1_l13.eq_2] at h
   refine run ?_
   refine aB ?_
   refine ay rfl (fun g17 => ?_) (fun g17 => ?_)
   ·replace h := ah g17 h
    refine run ?_
    refine aS (fun s L => ∃ p19 p20, gl N (major_order_c1_l4 N fy a1 m4) (major_order_c1_l13 N (major_order_c1_l4 N fy a1 m4) fy x12 p6 a1 m13) fy x12 p6 a1 p15 p19 p20 = some r ∧ s = [(0, .func (.yield l) #[] #[]), (1, pV B1 0), (3, iV p19), (5, iV x12), (8, .slice A3 n3 c3), (9, iV (([0, 1] : List Int).length : Int)), (10, iV p6), (14, .slice A2 n2 c2), (15, iV (a1.length : Int)), (16, iV p15)] ∧ L = br A3 n3 c3 ([0, 1] : List Int) :: cm A2 n2 c2 a1 :: bU B1 35 [.slice A2 n2 c2] :: (G p20)) ?_ ?_
    ·refine run ?_
     obtain ⟨x21, hx21, h⟩ := aa h
     obtain ⟨lx21, ux21, hx21⟩ := au hx21
     refine gR (aM 1 rfl ao rfl rfl Tryz.underlying35 dD lx21 ux21) ?_
     refine gR (bK (u := iV x21) 1 rfl ao rfl hx21 eo (fun _ _ _ h => by rw [show _ = _ from h]; rfl)) ?_
     refine run ?_
     refine aB ?_
     refine run ?_
     refine gE (sc rfl rfl (by decide)) ?_
     refine run ?_
     refine ay rfl (fun g22 => ?_) (fun g22 => ?_)
     ·replace h := ah g22 h
      refine run ?_
      exact ⟨_, _, ⟨p14, p16, h, rfl, rfl⟩, sA, ad [0, 1, 2] 3 rfl rfl⟩
     replace h := ai g22 h
     refine run ?_
     refine aB ?_
     refine run ?_
     obtain ⟨y23, hy23, h⟩ := aa h
     refine gD (qI (a := (p14, x21)) [br A3 n3 c3 ([0, 1] : List Int), cm A2 n2 c2 a1, bU B1 35 [.slice A2 n2 c2]] hY hy23 rfl rfl) ?_
     rintro _ _ ⟨rfl, rfl⟩
     refine run ?_
     refine ay rfl (fun g24 => ?_) (fun g24 => ?_)
     ·replace h := ah g24 h
      refine run ?_
      obtain rfl := aq h
      exact yM rfl (ad [] 3 rfl rfl) ⟨rfl, rfl⟩
     replace h := ai g24 h
     refine run ?_
     obtain ⟨q25, h⟩ := ap h
     refine gE (aR rfl rfl q25.1 q25.2) ?_
     refine run ?_
     exact ⟨_, _, ⟨p14 + 1, y23.2, h, rfl, rfl⟩, sA, ad [0, 1, 2] 3 rfl rfl⟩
    rintro _ _ ⟨p19, p20, h, rfl, rfl⟩
    refine cx ?_
    obtain ⟨q26, h⟩ := ap h
    refine gE (aR rfl rfl q26.1 q26.2) ?_
    refine run ?_
    exact ⟨m13, _, _, Nat.lt_succ_self _, ⟨p19, p15 + 1, p20, h, rfl, rfl⟩, sA, ad [0, 1, 2] 3 rfl rfl⟩
   replace h := ai g17 h
   refine run ?_
   exact ⟨_, _, ⟨p14, p16, h, rfl, rfl⟩, sA, ad [0, 1, 2] 3 rfl rfl⟩
  rintro _ _ ⟨p10, p11, h, rfl, rfl⟩
  refine cx ?_
  obtain ⟨q27, h⟩ := ap h
  refine gE (aR rfl rfl q27.1 q27.2) ?_
  refine run ?_
  exact ⟨m4, _, _, Nat.lt_succ_self _, ⟨p10, p6 + 1, p11, h, rfl, rfl⟩, sA, ad [0, 1, 2] 3 rfl rfl⟩
 replace h := ai g8 h
 refine run ?_
 obtain rfl := aq h
 exact jo rfl (ad [] 3 rfl rfl) ⟨rfl, rfl⟩
def iZ (N : Nat) (a0 : (List Int)) : Option Unit :=
 some ()
theorem mC {N : Nat} {a0 : (List Int)} {r : Unit} (h : iZ N a0 = some r) : Okc Tryz.prog 79 [.slice A1 n1 c1] ([cm A1 n1 c1 a0]) (fun u post => ∃ B900, u = .func (.func 131) #[] #[pV B900 0] ∧ post = [ag B900 35 [.slice A1 n1 c1]]) := by
 refine bN Tryz.func79 rfl rfl ?_
 simp only [bc]
 refine run ?_
 refine gD (bo rfl rfl) ?_
 rintro _ _ ⟨B2, rfl, rfl⟩
 refine run ?_
 refine gE (dU rfl) ?_
 refine run ?_
 obtain rfl := aq h
 exact aQ rfl rfl (ad [0] 2 rfl rfl) ⟨_, rfl, rfl⟩
theorem ks {A1 : Option Addr} {n1 : Nat} {c1 : Nat} : ∀ v post, ((fun (u : Value) (post : List Chunk) => ∃ B900, u = .func (.func 131) #[] #[pV B900 0] ∧ post = [ag B900 35 [.slice A1 n1 c1]])) v post → ∀ c ∈ post, cZ c := by
 rintro _ _ ⟨_, rfl, rfl⟩; exact mem_cons mI (ae)
def ku (N : Nat) (x11 : Int × Int) : ((List Int) × (List Int)) → Option (Option Exit × ((List Int) × (List Int)))
 |(p12, p13) => bM (cD (p12.length + ([x11.2] : List Int).length)) (bM (in64 (2 * x11.1)) (bM (in64 ((2 * x11.1) + 2)) (bM (cD (p13.length + ([(2 * x11.1) + 2] : List Int).length)) (some (none, (p12 ++ ([x11.2] : List Int), p13 ++ ([(2 * x11.1) + 2] : List Int)))))))
def ik (N : Nat) (a0 : DMemory) (a1 : (List DValue)) : Option ((List Int) × (List Int)) :=
 (fb N a0 a1).bind fun y7 => (iZ N y7).bind fun y9 => (ex N y7 (cK (fun x st => ku N x st)) (none, ([], []))).bind fun y14 => oz y14.1 (some (y14.2.1, y14.2.2)) none (fun _ => none)
theorem vo {N : Nat} {a0 : DMemory} {a1 : (List DValue)} {r : ((List Int) × (List Int))} (h : ik N a0 a1 = some r) : Okc Tryz.prog 33 [.agg #[.slice A1 n1 c1, .slice A2 n2 c2], .slice A3 n3 c3] ([aF A1 n1 c1 a0.Young, aF A2 n2 c2 a0.Old, av A3 n3 c3 a1]) (fun u post => ∃ A0 n0 c0 A1 n1 c1, u = .tuple #[.slice A0 n0 c0, .slice A1 n1 c1] ∧ post = [br A0 n0 c0 r.1, br A1 n1 c1 r.2]) := by
 refine bN Tryz.func33 rfl rfl ?_
 simp only [bc]
 refine run ?_
 refine gD (bo rfl rfl) ?_
 rintro _ _ ⟨B4, rfl, rfl⟩
 refine gD (aJ vP rfl) ?_
 rintro _ _ ⟨B5, rfl, rfl⟩
 refine gD (aJ vP rfl) ?_
 rintro _ _ ⟨B6, rfl, rfl⟩
 refine run ?_
 refine aB ?_
 refine run ?_
 refine gR (aC (us := [.slice A1 n1 c1, .slice A2 n2 c2]) 2 rfl rfl cN rfl) ?_
 refine run ?_
 obtain ⟨y7, hy7, h⟩ := aa h
 refine gD (am (ru hy7) FH rfl (mem_cons (aj (i := 3) rfl rfl) (mem_cons (aj (i := 4) rfl rfl) (mem_cons (aj (i := 5) rfl rfl) ae))) pc) ?_
 rintro _ _ ⟨_, ⟨A8, n8, c8, rfl, rfl⟩, rfl⟩
 obtain ⟨y9, hy9, h⟩ := aa h
 refine gD (am (mC hy9) Cs rfl (mem_cons (aK (i := 0) rfl) ae) ks) ?_
 rintro _ _ ⟨_, ⟨B10, rfl, rfl⟩, rfl⟩
 refine nH ?_
 refine lN ?_
 refine dK ?_ cw (fO 0 rfl)
 refine dK ?_ cw (bV 1 rfl)
 obtain ⟨y14, hy14, h⟩ := aa h
 refine mZ (en := (fun x => [iV x.1, iV x.2])) (fun x st => ku N x st) (fun (st : (List Int) × (List Int)) (mz : ((Option Addr × Nat × Nat) × (Option Addr × Nat × Nat))) => [dz (dS .i64) 3 (.slice mz.1.1 mz.1.2.1 mz.1.2.2) st.1, ag B5 35 [.slice mz.1.1 mz.1.2.1 mz.1.2.2], dz (dS .i64) 3 (.slice mz.2.1 mz.2.2.1 mz.2.2.2) st.2, ag B6 35 [.slice mz.2.1 mz.2.2.1 mz.2.2.2]]) [bU B10 35 [.slice A8 n8 c8], cm A8 n8 c8 y7] (([], [])) (((none, 0, 0), (none, 0, 0))) rfl rfl zT rfl (fun _ => rfl) (fun l G hY => (jL hy14 hY).mono fun _ _ hh => hh.2) ((cH (dS .i64) 3 _).trans ((cH (dS .i64) 3 _).trans (be [2, 3] [] [1, 5, 0, 4] 10 rfl))) h ?_ ?_ ?_ ?_
 ·rintro l x11 ⟨p12, p13⟩ je sr11 ⟨⟨A12, n12, c12⟩, ⟨A13, n13, c13⟩⟩ h
  replace h : ku N x11 (p12, p13) = some (je, sr11) := h
  simp only [sd, List.zip_cons_cons, List.zip_nil_left, List.zip_nil_right, List.reverse_cons, List.reverse_nil, List.nil_append, List.cons_append]
  refine run ?_
  obtain ⟨q19, h⟩ := ap h
  obtain ⟨q22, h⟩ := ap h
  obtain ⟨q23, h⟩ := ap h
  refine dK (t := [(4, pV B5 0), (5, pV B6 0), (6, iV x11.1), (7, iV x11.2)]) ?_ fU (ab _)
  refine d9 (L := [ag B5 35 [.slice A12 n12 c12], br A13 n13 c13 p13, ag B6 35 [.slice A13 n13 c13]]) (by kernel_rfl) 9 [] [3, 4, 8] [14, 15, 16, 17, 18, 19, 20, 21, 22] [[], [], [1], [0, 2], [], [], [5], [6], [7]] [aV (.slice A12 n12 c12),
 aV (iV x11.2),
 aX3 (fun (A18 : Option Addr) (n18 c18 : Nat) => .slice A18 n18 c18) (fun A18 n18 c18 => [br A18 n18 c18 ([x11.2] : List Int)]),
 aX3 (fun (A21 : Option Addr) (n21 c21 : Nat) => .slice A21 n21 c21) (fun A21 n21 c21 => [br A21 n21 c21 (p12 ++ ([x11.2] : List Int))]),
 aV (.slice A13 n13 c13),
 aV (iV x11.1),
 aV (iV (2 * x11.1)),
 aV (iV ((2 * x11.1) + 2)),
 aX3 (fun (A25 : Option Addr) (n25 c25 : Nat) => .slice A25 n25 c25) (fun A25 n25 c25 => [br A25 n25 c25 ([(2 * x11.1) + 2] : List Int)])] [[], [], [], [br A12 n12 c12 p12]] (ad [0, 1, 2, 3] 4 rfl rfl) (fM) (by kernel_rfl) rfl rfl ?_ ?_ ?_
  ·exact fL
  ·refine ac rfl ?_ ?_
   ·refine eg (bm (R := (dS .i64)) (vss := [[iV ((2 * x11.1) + 2)]]) (xs := [(2 * x11.1) + 2]) rfl (gG _) rfl rfl (fun _ _ hr => .cons rfl All2.nil)) rfl ?_
    rintro _ _ ⟨A24, n24, c24, rfl, rfl⟩
    exact gX A24 n24 c24 (ab _)
   refine ac rfl ?_ ?_
   ·exact aW (aR rfl rfl q23.1 q23.2) rfl (aA rfl (ab _))
   refine ac rfl ?_ ?_
   ·exact aW (qh rfl rfl q22.1 q22.2) rfl (aA rfl (ab _))
   refine ac rfl ?_ ?_
   ·exact aW (az rfl) rfl (aA rfl (ab _))
   refine ac rfl ?_ ?_
   ·exact cc (aO 2 rfl rfl dE rfl) rfl (aA rfl (ab _))
   refine ac rfl ?_ ?_
   ·intro A18 n18 c18
    refine eg (bF 1 0 rfl rfl aH rfl rfl Tryz.underlying35 Ac rfl rfl q19) rfl ?_
    rintro _ _ ⟨A20, n20, c20, rfl, rfl⟩
    exact gX A20 n20 c20 (ad [1, 0, 2, 3, 4] 5 rfl rfl)
   refine ac rfl ?_ ?_
   ·refine eg (bm (R := (dS .i64)) (vss := [[iV x11.2]]) (xs := [x11.2]) rfl (gG _) rfl rfl (fun _ _ hr => .cons rfl All2.nil)) rfl ?_
    rintro _ _ ⟨A17, n17, c17, rfl, rfl⟩
    exact gX A17 n17 c17 (ab _)
   refine ac rfl ?_ ?_
   ·exact aW (az rfl) rfl (aA rfl (ab _))
   refine ac rfl ?_ ?_
   ·exact cc (aO 0 rfl rfl dE rfl) rfl (aA rfl (ab _))
   exact cO
  intro A21 n21 c21 A25 n25 c25
  refine ip (t := [(17, .slice A21 n21 c21), (18, .slice A13 n13 c13), (22, .slice A25 n25 c25), (4, pV B5 0), (5, pV B6 0), (6, iV x11.1), (7, iV x11.2)]) (L' := [br A21 n21 c21 (p12 ++ ([x11.2] : List Int)), br A25 n25 c25 ([(2 * x11.1) + 2] : List Int), ag B5 35 [.slice A12 n12 c12], br A13 n13 c13 p13, ag B6 35 [.slice A13 n13 c13]]) ?_ fU (ab _)
  obtain ⟨q26, h⟩ := ap h
  refine nG 9 rfl (by kernel_rfl) (bF 3 1 rfl rfl aH rfl rfl Tryz.underlying35 Ac rfl rfl q26) rfl rfl rfl ?_
  rintro _ _ ⟨A27, n27, c27, rfl, rfl⟩
  refine mX ([br A21 n21 c21 (p12 ++ ([x11.2] : List Int)), br A25 n25 c25 ([(2 * x11.1) + 2] : List Int), ag B5 35 [.slice A12 n12 c12], br A27 n27 c27 (p13 ++ ([(2 * x11.1) + 2] : List Int)), ag B6 35 [.slice A13 n13 c13]]) rfl ?_
  refine jY 10 rfl (by kernel_rfl) (ar (us := [.slice A21 n21 c21]) (cs' := [.slice A21 n21 c21]) 2 rfl rfl rfl rfl iK rfl rfl rfl) rfl rfl ?_
  rintro _ _ rfl
  refine jY 11 rfl (by kernel_rfl) (ar (us := [.slice A27 n27 c27]) (cs' := [.slice A27 n27 c27]) 4 rfl rfl rfl rfl iK rfl rfl rfl) rfl rfl ?_
  rintro _ _ rfl
  refine fT (by kernel_rfl) ?_
  refine G9 ?_
  obtain ⟨rfl, rfl⟩ := Prod.mk.inj (Option.some.inj h)
  exact ux ((ad [0, 2, 3, 4] 5 rfl rfl).trans (dF ((A21, n21, c21), (A27, n27, c27)) rfl))
 ·rintro ⟨⟨A12, n12, c12⟩, ⟨A13, n13, c13⟩⟩ h
  refine jZ ([br A12 n12 c12 y14.2.1, ag B5 35 [.slice A12 n12 c12], br A13 n13 c13 y14.2.2, ag B6 35 [.slice A13 n13 c13]]) rfl ?_
  refine run ?_
  refine aB ?_
  refine dB (by kernel_rfl) _ (ab _) ?_
  refine bv 0 rfl (by kernel_rfl) (aO 1 rfl rfl dE rfl) rfl rfl ?_
  refine bv 1 rfl (by kernel_rfl) (aO 3 rfl rfl dE rfl) rfl rfl ?_
  refine qq 2 rfl (by kernel_rfl) (ar (us := [.slice A12 n12 c12]) (cs' := [.slice A12 n12 c12]) 1 rfl rfl rfl rfl iK rfl rfl rfl) rfl rfl ?_
  rintro _ _ rfl
  refine ⟨_, ab _, ab _, ?_⟩
  refine fF ([br A12 n12 c12 y14.2.1, ag B5 35 [.slice A12 n12 c12], br A13 n13 c13 y14.2.2, ag B6 35 [.slice A13 n13 c13]]) rfl ?_
  refine qq 3 rfl (by kernel_rfl) (ar (us := [.slice A13 n13 c13]) (cs' := [.slice A13 n13 c13]) 3 rfl rfl rfl rfl iK rfl rfl rfl) rfl rfl ?_
  rintro _ _ rfl
  refine ⟨_, ab _, ab _, ?_⟩
  refine fF ([br A12 n12 c12 y14.2.1, ag B5 35 [.slice A12 n12 c12], br A13 n13 c13 y14.2.2, ag B6 35 [.slice A13 n13 c13]]) rfl ?_
  refine dA (by kernel_rfl) ?_
  refine run ?_
  obtain rfl := aq h
  exact eP (rs := [.cell 4 35, .cell 5 35]) (vs := [.slice A12 n12 c12, .slice A13 n13 c13]) rfl (.cons (kF 1 rfl rfl dE) (.cons (kF 3 rfl rfl dE) .nil)) rfl (ad [0, 2] 4 rfl rfl) ⟨_, _, _, _, _, _, rfl, rfl⟩
 ·rintro ⟨⟨A12, n12, c12⟩, ⟨A13, n13, c13⟩⟩ h
  exact aD h
 rintro i ⟨⟨A12, n12, c12⟩, ⟨A13, n13, c13⟩⟩ h
 exact aD h
theorem tj {r : ((List Int) × (List Int))} : ∀ v post, ((fun (u : Value) (post : List Chunk) => ∃ A0 n0 c0 A1 n1 c1, u = .tuple #[.slice A0 n0 c0, .slice A1 n1 c1] ∧ post = [br A0 n0 c0 r.1, br A1 n1 c1 r.2])) v post → ∀ c ∈ post, cZ c := by
 rintro _ _ ⟨_, _, _, _, _, _, rfl, rfl⟩; exact mem_cons bS (mem_cons bS (ae))
def ey (N : Nat) (a0 : Int) (a1 : DMemory) : Option Bool :=
 (dx N a1 a0).bind fun y4 => some (!y4)
theorem ti {N : Nat} {a0 : Int} {a1 : DMemory} {r : Bool} (h : ey N a0 a1 = some r) : Okc Tryz.prog 130 [iV a0, pV B1 0] ([bU B1 24 [.slice A2 n2 c2, .slice A3 n3 c3], aF A2 n2 c2 a1.Young, aF A3 n3 c3 a1.Old]) (fun u post => u = .bool r ∧ post = []) := by
 refine bN Tryz.func130 rfl rfl ?_
 simp only [bc]
 refine run ?_
 refine gR (om (us := [.slice A2 n2 c2, .slice A3 n3 c3]) 0 rfl rfl cN rfl) ?_
 refine run ?_
 obtain ⟨y4, hy4, h⟩ := aa h
 refine gD (am (dM hy4) nW rfl (mem_cons (aj (i := 1) rfl rfl) (mem_cons (aj (i := 2) rfl rfl) ae)) dh) ?_
 rintro _ _ ⟨_, ⟨rfl, rfl⟩, rfl⟩
 refine run ?_
 obtain rfl := aq h
 exact aQ rfl rfl (ad [] 3 rfl rfl) ⟨rfl, rfl⟩
end Go.Proofs.YtmbaennilhdieaaGreat