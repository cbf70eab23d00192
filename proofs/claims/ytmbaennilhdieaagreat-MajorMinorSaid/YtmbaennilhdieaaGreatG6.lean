/- Merged texts: part 6. No conditions of their own. -/
import Derived.Test.YtmbaennilhdieaaGreatG5
namespace Go.Proofs.YtmbaennilhdieaaGreat
variable {A1 A2 A3 : Option Addr} {B1 M2 c1 c2 c3 n1 n2 n3 : Nat}
open Go.RowKit Asn
set_option maxRecDepth 20000
def lC (N : Nat) (a0 : DMemory) (p39 : (List Int)) : Option Int :=
 (bi N p39 (fun x => ey N x a0)).bind fun y54 => bif y54 then (some 50) else (some 0)
def jf (N : Nat) (kb40 : (List Int) → Int → Option Int) (a1 : (List DValue)) (p42 : Int) (a0 : DMemory) (p45 : (List Int)) : Option Int :=
 bM (in64 (p42 + 1)) (kb40 p45 (p42 + 1))
def major_check_l40 (N : Nat) (a1 : (List DValue)) (a0 : DMemory) : Nat → (List Int) → Int → Option Int
 | 0, _, _ => none
 | m40 + 1, p41, p42 => bif decide (p42 < (a1.length : Int)) then ((aG a1 p42).bind fun x46 => (bif decide (x46.Kind = 7) then (some true) else (some (decide (x46.Kind = 9)))).bind fun b48 => bif b48 then (bM (cD (p41.length + ([x46.N] : List Int).length)) (jf N (major_check_l40 N a1 a0 m40) a1 p42 a0 (p41 ++ ([x46.N] : List Int)))) else (jf N (major_check_l40 N a1 a0 m40) a1 p42 a0 p41)) else (lC N a0 p41)
def jO (N : Nat) (a1 : (List DValue)) (a0 : DMemory) (p6 : (List Int)) : Option Int :=
 major_check_l40 N a1 a0 N p6 0
def lD (N : Nat) (kb8 : (List Int) → Int → Option Int) (a0 : DMemory) (p10 : Int) (a1 : (List DValue)) (p14 : (List Int)) : Option Int :=
 bM (in64 (p10 + 1)) (kb8 p14 (p10 + 1))
def major_check_l17 (N : Nat) (kb8 : (List Int) → Int → Option Int) (a0 : DMemory) (p10 : Int) (x15 : (List DCell)) (a1 : (List DValue)) : Nat → (List Int) → Int → Option Int
 | 0, _, _ => none
 | m17 + 1, p18, p19 => bif decide (p19 < (x15.length : Int)) then ((aG x15 p19).bind fun x21 => (dP N x21).bind fun y26 => bif !y26 then (some 51) else ((dQ N x21).bind fun y28 => bM (cD (p18.length + y28.length)) ((fC N x21).bind fun y32 => bM (cD ((p18 ++ y28).length + y32.length)) (bM (in64 (p19 + 1)) ((major_check_l17 N kb8 a0 p10 x15 a1 m17) ((p18 ++ y28) ++ y32) (p19 + 1)))))) else (lD N kb8 a0 p10 a1 p18)
def major_check_l8 (N : Nat) (a0 : DMemory) (a1 : (List DValue)) : Nat → (List Int) → Int → Option Int
 | 0, _, _ => none
 | m8 + 1, p9, p10 => bif decide (p10 < (([a0.Young, a0.Old] : List (List DCell)).length : Int)) then ((aG ([a0.Young, a0.Old] : List (List DCell)) p10).bind fun x15 => major_check_l17 N (major_check_l8 N a0 a1 m8) a0 p10 x15 a1 N p9 0) else (jO N a1 a0 p9)
def kN (N : Nat) (a0 : DMemory) (a1 : (List DValue)) : Option Int :=
 major_check_l8 N a0 a1 N [] 0
theorem wS {N : Nat} {a0 : DMemory} {a1 : (List DValue)} {r : Int} (h : kN N a0 a1 = some r) : Okc Tryz.prog 78 [.agg #[.slice A1 n1 c1, .slice A2 n2 c2], .slice A3 n3 c3] ([aF A1 n1 c1 a0.Young, aF A2 n2 c2 a0.Old, av A3 n3 c3 a1]) (fun u post => u = iV r ∧ post = []) := by
 refine bN Tryz.func78 rfl rfl ?_
 simp only [bc]
 refine run ?_
 refine gD (bo rfl rfl) ?_
 rintro _ _ ⟨B4, rfl, rfl⟩
 refine run ?_
 refine aS (fun s L => ∃ p6 A6 n6 c6, jO N a1 a0 p6 = some r ∧ s = [(1, .slice A3 n3 c3), (2, pV B4 0), (4, iV 0), (5, .slice A6 n6 c6)] ∧ L = [av A3 n3 c3 a1, br A6 n6 c6 p6, aF A1 n1 c1 a0.Young, aF A2 n2 c2 a0.Old, ag B4 24 [.slice A1 n1 c1, .slice A2 n2 c2]]) ?_ ?_
 ·refine run ?_
  refine gD (bm (R := (Rep.sl bO)) (vss := [[.slice A1 n1 c1], [.slice A2 n2 c2]]) (xs := [a0.Young, a0.Old]) rfl (xr _ _ _ _ _ _) rfl rfl (fun _ _ hr => .cons (⟨_, rfl, hr 1 _ rfl rfl⟩) (.cons (⟨_, rfl, hr 2 _ rfl rfl⟩) All2.nil))) ?_
  rintro _ _ ⟨A7, n7, c7, rfl, rfl⟩
  refine gR (aL 0 rfl aH rfl Tryz.underlying66) ?_
  refine run ?_
  refine bp (fun m s L => ∃ p9 p10 A9 n9 c9, major_check_l8 N a0 a1 m p9 p10 = some r ∧ s = [(1, .slice A3 n3 c3), (2, pV B4 0), (4, iV 0), (5, .slice A9 n9 c9), (16, .slice A7 n7 c7), (17, iV (([a0.Young, a0.Old] : List (List DCell)).length : Int)), (18, iV p10)] ∧ L = [av A3 n3 c3 a1, br A9 n9 c9 p9, dz (Rep.sl bO) 22 (.slice A7 n7 c7) ([a0.Young, a0.Old] : List (List DCell)), aF A1 n1 c1 a0.Young, aF A2 n2 c2 a0.Old, ag B4 24 [.slice A1 n1 c1, .slice A2 n2 c2]]) N _ _ ⟨[], 0, none, 0, 0, h, rfl, rfl⟩ sA ((cH (dS .i64) 3 _).trans (ad [5, 0, 1, 3, 4, 2] 6 rfl rfl)) ?_
  rintro (_ | m8) _ _ ⟨p9, p10, A9, n9, c9, h, rfl, rfl⟩
  ·exact aD h
  rw [major_check_l8.eq_2] at h
  refine run ?_
  refine aB ?_
  refine ay rfl (fun g12 => ?_) (fun g12 => ?_)
  ·replace h := ah g12 h
   refine run ?_
   refine aS (fun s L => ∃ p14 A14 n14 c14, lD N (major_check_l8 N a0 a1 m8) a0 p10 a1 p14 = some r ∧ s = [(1, .slice A3 n3 c3), (2, pV B4 0), (4, iV 0), (5, .slice A14 n14 c14), (16, .slice A7 n7 c7), (17, iV (([a0.Young, a0.Old] : List (List DCell)).length : Int)), (18, iV p10)] ∧ L = [av A3 n3 c3 a1, br A14 n14 c14 p14, dz (Rep.sl bO) 22 (.slice A7 n7 c7) ([a0.Young, a0.Old] : List (List DCell)), aF A1 n1 c1 a0.Young, aF A2 n2 c2 a0.Old, ag B4 24 [.slice A1 n1 c1, .slice A2 n2 c2]]) ?_ ?_
   ·refine run ?_
    obtain ⟨x15, hx15, h⟩ := aa h
    obtain ⟨lx15, ux15, hx15⟩ := au hx15
    refine gR (aM 2 rfl aH rfl rfl Tryz.underlying66 nL lx15 ux15) ?_
    refine gD (Ay (R' := bO) (ys := x15) 2 rfl aH rfl hx15 gU (fun _ _ _ h => by obtain ⟨u, e, k⟩ := h; exact ⟨u, by rw [e]; rfl, k⟩)) ?_
    rintro _ _ ⟨A16, n16, c16, rfl, rfl⟩
    refine run ?_
    refine gR (aL 0 rfl ao rfl Tryz.underlying22) ?_
    refine run ?_
    refine bp (fun m s L => ∃ p18 p19 A18 n18 c18, major_check_l17 N (major_check_l8 N a0 a1 m8) a0 p10 x15 a1 m p18 p19 = some r ∧ s = [(1, .slice A3 n3 c3), (2, pV B4 0), (4, iV 0), (5, .slice A18 n18 c18), (16, .slice A7 n7 c7), (17, iV (([a0.Young, a0.Old] : List (List DCell)).length : Int)), (18, iV p10), (22, .slice A16 n16 c16), (23, iV (x15.length : Int)), (24, iV p19)] ∧ L = [av A3 n3 c3 a1, br A18 n18 c18 p18, dz (Rep.sl bO) 22 (.slice A7 n7 c7) ([a0.Young, a0.Old] : List (List DCell)), aF A16 n16 c16 x15, aF A1 n1 c1 a0.Young, aF A2 n2 c2 a0.Old, ag B4 24 [.slice A1 n1 c1, .slice A2 n2 c2]]) N _ _ ⟨p9, 0, A9, n9, c9, h, rfl, rfl⟩ sA (ad [1, 2, 3, 0, 4, 5, 6] 7 rfl rfl) ?_
    rintro (_ | m17) _ _ ⟨p18, p19, A18, n18, c18, h, rfl, rfl⟩
    ·exact aD h
    rw [major_check_l17.eq_2] at h
    refine run ?_
    refine aB ?_
    refine ay rfl (fun g20 => ?_) (fun g20 => ?_)
    ·replace h := ah g20 h
     refine run ?_
     refine aB ?_
     refine run ?_
     obtain ⟨x21, hx21, h⟩ := aa h
     obtain ⟨lx21, ux21, hx21⟩ := au hx21
     refine gR (aM 3 rfl ao rfl rfl Tryz.underlying22 bz lx21 ux21) ?_
     refine va 3 rfl hx21 (db x21) ?_
     rintro _ _ ⟨A22, n22, c22, A23, n23, c23, rfl, rfl⟩
     refine gR (nm (us := [iV x21.Kind, iV x21.Shape, iV x21.Flags, iV x21.Age, .slice A22 n22 c22, .slice A23 n23 c23]) 0 rfl rfl bu rfl) ?_
     refine gD (aJ dR rfl) ?_
     rintro _ _ ⟨B25, rfl, rfl⟩
     refine gO (ar (us := [iV x21.Kind, iV x21.Shape, iV x21.Flags, iV x21.Age, .slice A22 n22 c22, .slice A23 n23 c23]) (cs' := [iV x21.Kind, iV x21.Shape, iV x21.Flags, iV x21.Age, .slice A22 n22 c22, .slice A23 n23 c23]) 0 rfl rfl rfl rfl bz rfl rfl rfl) ?_
     rintro _ _ rfl
     refine run ?_
     refine aB ?_
     refine run ?_
     refine gR (aC (us := [iV x21.Kind, iV x21.Shape, iV x21.Flags, iV x21.Age, .slice A22 n22 c22, .slice A23 n23 c23]) 0 rfl rfl bu rfl) ?_
     obtain ⟨y26, hy26, h⟩ := aa h
     refine gD (am (fD hy26) sq rfl (mem_cons (aj (i := 2) rfl rfl) (mem_cons (aj (i := 3) rfl rfl) ae)) ee) ?_
     rintro _ _ ⟨_, ⟨rfl, rfl⟩, rfl⟩
     refine run ?_
     refine ay rfl (fun g27 => ?_) (fun g27 => ?_)
     ·replace h := ah g27 h
      refine run ?_
      obtain rfl := aq h
      exact aQ rfl rfl (ad [] 11 rfl rfl) ⟨rfl, rfl⟩
     replace h := ai g27 h
     refine run ?_
     refine dB (by kernel_rfl) ([ag B25 32 [iV x21.Kind, iV x21.Shape, iV x21.Flags, iV x21.Age, .slice A22 n22 c22, .slice A23 n23 c23], pq (cA (.slice A16 n16 c16) p19.toNat 6 0) [iV x21.Kind, iV x21.Shape, iV x21.Flags, iV x21.Age, .slice A22 n22 c22, .slice A23 n23 c23], av A22 n22 c22 x21.Slots, av A23 n23 c23 x21.More, av A3 n3 c3 a1, dz (Rep.sl bO) 22 (.slice A7 n7 c7) ([a0.Young, a0.Old] : List (List DCell)), aF A16 n16 c16 x15, aF A1 n1 c1 a0.Young, aF A2 n2 c2 a0.Old, ag B4 24 [.slice A1 n1 c1, .slice A2 n2 c2]]) (ad [0, 1, 2, 3, 4, 6, 7, 8, 9, 10] 11 rfl rfl) ?_
     refine aI 0 rfl (by kernel_rfl) (az rfl) rfl rfl ?_
     refine bv 1 rfl (by kernel_rfl) (aC (us := [iV x21.Kind, iV x21.Shape, iV x21.Flags, iV x21.Age, .slice A22 n22 c22, .slice A23 n23 c23]) 0 rfl rfl bu rfl) rfl rfl ?_
     refine bv 4 rfl (by kernel_rfl) (aC (us := [iV x21.Kind, iV x21.Shape, iV x21.Flags, iV x21.Age, .slice A22 n22 c22, .slice A23 n23 c23]) 0 rfl rfl bu rfl) rfl rfl ?_
     obtain ⟨y28, hy28, h⟩ := aa h
     refine gt 2 rfl (by kernel_rfl) (am (fE hy28) sm rfl (mem_cons (aj (i := 2) rfl rfl) (mem_cons (aj (i := 3) rfl rfl) ae)) ef) rfl rfl rfl ?_
     rintro _ _ ⟨_, ⟨A29, n29, c29, rfl, rfl⟩, rfl⟩
     refine ⟨[ag B25 32 [iV x21.Kind, iV x21.Shape, iV x21.Flags, iV x21.Age, .slice A22 n22 c22, .slice A23 n23 c23], pq (cA (.slice A16 n16 c16) p19.toNat 6 0) [iV x21.Kind, iV x21.Shape, iV x21.Flags, iV x21.Age, .slice A22 n22 c22, .slice A23 n23 c23], av A22 n22 c22 x21.Slots, av A23 n23 c23 x21.More, av A3 n3 c3 a1, dz (Rep.sl bO) 22 (.slice A7 n7 c7) ([a0.Young, a0.Old] : List (List DCell)), aF A16 n16 c16 x15, aF A1 n1 c1 a0.Young, aF A2 n2 c2 a0.Old, ag B4 24 [.slice A1 n1 c1, .slice A2 n2 c2]], ad [1, 2, 3, 4, 5, 7, 8, 9, 10, 11] 12 rfl rfl, ab _, ?_⟩
     obtain ⟨q30, h⟩ := ap h
     refine gt 3 rfl (by kernel_rfl) (bF 6 0 rfl rfl aH rfl rfl Tryz.underlying35 Ac rfl rfl q30) rfl rfl rfl ?_
     rintro _ _ ⟨A31, n31, c31, rfl, rfl⟩
     refine ⟨[ag B25 32 [iV x21.Kind, iV x21.Shape, iV x21.Flags, iV x21.Age, .slice A22 n22 c22, .slice A23 n23 c23], pq (cA (.slice A16 n16 c16) p19.toNat 6 0) [iV x21.Kind, iV x21.Shape, iV x21.Flags, iV x21.Age, .slice A22 n22 c22, .slice A23 n23 c23], av A22 n22 c22 x21.Slots, av A23 n23 c23 x21.More, av A3 n3 c3 a1, dz (Rep.sl bO) 22 (.slice A7 n7 c7) ([a0.Young, a0.Old] : List (List DCell)), aF A16 n16 c16 x15, aF A1 n1 c1 a0.Young, aF A2 n2 c2 a0.Old, ag B4 24 [.slice A1 n1 c1, .slice A2 n2 c2]], ad [1, 2, 3, 4, 5, 7, 8, 9, 10, 11] 12 rfl rfl, ab _, ?_⟩
     refine fF ([br A29 n29 c29 y28, ag B25 32 [iV x21.Kind, iV x21.Shape, iV x21.Flags, iV x21.Age, .slice A22 n22 c22, .slice A23 n23 c23], pq (cA (.slice A16 n16 c16) p19.toNat 6 0) [iV x21.Kind, iV x21.Shape, iV x21.Flags, iV x21.Age, .slice A22 n22 c22, .slice A23 n23 c23], av A22 n22 c22 x21.Slots, av A23 n23 c23 x21.More, av A3 n3 c3 a1, br A31 n31 c31 (p18 ++ y28), dz (Rep.sl bO) 22 (.slice A7 n7 c7) ([a0.Young, a0.Old] : List (List DCell)), aF A16 n16 c16 x15, aF A1 n1 c1 a0.Young, aF A2 n2 c2 a0.Old, ag B4 24 [.slice A1 n1 c1, .slice A2 n2 c2]]) rfl ?_
     obtain ⟨y32, hy32, h⟩ := aa h
     refine gt 5 rfl (by kernel_rfl) (am (jU hy32) zP rfl (mem_cons (aj (i := 3) rfl rfl) (mem_cons (aj (i := 4) rfl rfl) ae)) iF) rfl rfl rfl ?_
     rintro _ _ ⟨_, ⟨A33, n33, c33, rfl, rfl⟩, rfl⟩
     refine ⟨[ag B25 32 [iV x21.Kind, iV x21.Shape, iV x21.Flags, iV x21.Age, .slice A22 n22 c22, .slice A23 n23 c23], pq (cA (.slice A16 n16 c16) p19.toNat 6 0) [iV x21.Kind, iV x21.Shape, iV x21.Flags, iV x21.Age, .slice A22 n22 c22, .slice A23 n23 c23], av A22 n22 c22 x21.Slots, av A23 n23 c23 x21.More, av A3 n3 c3 a1, dz (Rep.sl bO) 22 (.slice A7 n7 c7) ([a0.Young, a0.Old] : List (List DCell)), aF A16 n16 c16 x15, aF A1 n1 c1 a0.Young, aF A2 n2 c2 a0.Old, ag B4 24 [.slice A1 n1 c1, .slice A2 n2 c2]], ad [2, 3, 4, 5, 6, 8, 9, 10, 11, 12] 13 rfl rfl, ab _, ?_⟩
     obtain ⟨q34, h⟩ := ap h
     refine gt 6 rfl (by kernel_rfl) (bF 7 0 rfl rfl aH rfl rfl Tryz.underlying35 Ac rfl rfl q34) rfl rfl rfl ?_
     rintro _ _ ⟨A35, n35, c35, rfl, rfl⟩
     refine ⟨[ag B25 32 [iV x21.Kind, iV x21.Shape, iV x21.Flags, iV x21.Age, .slice A22 n22 c22, .slice A23 n23 c23], pq (cA (.slice A16 n16 c16) p19.toNat 6 0) [iV x21.Kind, iV x21.Shape, iV x21.Flags, iV x21.Age, .slice A22 n22 c22, .slice A23 n23 c23], av A22 n22 c22 x21.Slots, av A23 n23 c23 x21.More, av A3 n3 c3 a1, dz (Rep.sl bO) 22 (.slice A7 n7 c7) ([a0.Young, a0.Old] : List (List DCell)), aF A16 n16 c16 x15, aF A1 n1 c1 a0.Young, aF A2 n2 c2 a0.Old, ag B4 24 [.slice A1 n1 c1, .slice A2 n2 c2]], ad [2, 3, 4, 5, 6, 8, 9, 10, 11, 12] 13 rfl rfl, ab _, ?_⟩
     refine fF ([br A33 n33 c33 y32, br A29 n29 c29 y28, ag B25 32 [iV x21.Kind, iV x21.Shape, iV x21.Flags, iV x21.Age, .slice A22 n22 c22, .slice A23 n23 c23], pq (cA (.slice A16 n16 c16) p19.toNat 6 0) [iV x21.Kind, iV x21.Shape, iV x21.Flags, iV x21.Age, .slice A22 n22 c22, .slice A23 n23 c23], av A22 n22 c22 x21.Slots, av A23 n23 c23 x21.More, av A3 n3 c3 a1, br A35 n35 c35 ((p18 ++ y28) ++ y32), dz (Rep.sl bO) 22 (.slice A7 n7 c7) ([a0.Young, a0.Old] : List (List DCell)), aF A16 n16 c16 x15, aF A1 n1 c1 a0.Young, aF A2 n2 c2 a0.Old, ag B4 24 [.slice A1 n1 c1, .slice A2 n2 c2]]) rfl ?_
     refine aI 7 rfl (by kernel_rfl) (bw rfl) rfl rfl ?_
     refine dA (by kernel_rfl) ?_
     refine run ?_
     obtain ⟨q36, h⟩ := ap h
     refine gE (aR rfl rfl q36.1 q36.2) ?_
     refine run ?_
     exact ⟨m17, _, _, Nat.lt_succ_self _, ⟨(p18 ++ y28) ++ y32, p19 + 1, A35, n35, c35, h, rfl, rfl⟩, sA, ad [6, 7, 8, 9, 10, 11, 12] 13 rfl rfl⟩
    replace h := ai g20 h
    refine run ?_
    exact ⟨_, _, ⟨p18, A18, n18, c18, h, rfl, rfl⟩, sA, ad [0, 1, 2, 4, 5, 6] 7 rfl rfl⟩
   rintro _ _ ⟨p14, A14, n14, c14, h, rfl, rfl⟩
   refine cx ?_
   obtain ⟨q37, h⟩ := ap h
   refine gE (aR rfl rfl q37.1 q37.2) ?_
   refine run ?_
   exact ⟨m8, _, _, Nat.lt_succ_self _, ⟨p14, p10 + 1, A14, n14, c14, h, rfl, rfl⟩, sA, ad [0, 1, 2, 3, 4, 5] 6 rfl rfl⟩
  replace h := ai g12 h
  refine run ?_
  exact ⟨_, _, ⟨p9, A9, n9, c9, h, rfl, rfl⟩, sA, ad [0, 1, 3, 4, 5] 6 rfl rfl⟩
 rintro _ _ ⟨p6, A6, n6, c6, h, rfl, rfl⟩
 refine aS (fun s L => ∃ p39 A39 n39 c39, lC N a0 p39 = some r ∧ s = [(2, pV B4 0), (4, iV 0), (5, .slice A39 n39 c39)] ∧ L = [br A39 n39 c39 p39, aF A1 n1 c1 a0.Young, aF A2 n2 c2 a0.Old, ag B4 24 [.slice A1 n1 c1, .slice A2 n2 c2]]) ?_ ?_
 ·refine run ?_
  refine gR (aL 0 rfl ao rfl Tryz.underlying25) ?_
  refine run ?_
  refine bp (fun m s L => ∃ p41 p42 A41 n41 c41, major_check_l40 N a1 a0 m p41 p42 = some r ∧ s = [(2, pV B4 0), (4, iV 0), (5, .slice A41 n41 c41), (40, .slice A3 n3 c3), (41, iV (a1.length : Int)), (42, iV p42)] ∧ L = [br A41 n41 c41 p41, av A3 n3 c3 a1, aF A1 n1 c1 a0.Young, aF A2 n2 c2 a0.Old, ag B4 24 [.slice A1 n1 c1, .slice A2 n2 c2]]) N _ _ ⟨p6, 0, A6, n6, c6, h, rfl, rfl⟩ sA (ad [1, 0, 2, 3, 4] 5 rfl rfl) ?_
  rintro (_ | m40) _ _ ⟨p41, p42, A41, n41, c41, h, rfl, rfl⟩
  ·exact aD h
  rw [major_check_l40.eq_2] at h
  refine run ?_
  refine aB ?_
  refine ay rfl (fun g43 => ?_) (fun g43 => ?_)
  ·replace h := ah g43 h
   refine run ?_
   refine aS (fun s L => ∃ p45 A45 n45 c45, jf N (major_check_l40 N a1 a0 m40) a1 p42 a0 p45 = some r ∧ s = [(2, pV B4 0), (4, iV 0), (5, .slice A45 n45 c45), (40, .slice A3 n3 c3), (41, iV (a1.length : Int)), (42, iV p42)] ∧ L = [br A45 n45 c45 p45, av A3 n3 c3 a1, aF A1 n1 c1 a0.Young, aF A2 n2 c2 a0.Old, ag B4 24 [.slice A1 n1 c1, .slice A2 n2 c2]]) ?_ ?_
   ·refine run ?_
    obtain ⟨x46, hx46, h⟩ := aa h
    obtain ⟨lx46, ux46, hx46⟩ := au hx46
    refine gR (aM 1 rfl ao rfl rfl Tryz.underlying25 bh lx46 ux46) ?_
    refine gR (bA (us := [iV x46.Kind, iV x46.N, .string x46.S]) 1 rfl ao rfl hx46 ca (fun _ _ _ h => by rw [show _ = _ from h]; rfl)) ?_
    refine gD (aJ f4 rfl) ?_
    rintro _ _ ⟨B47, rfl, rfl⟩
    refine gO (ar (us := [iV x46.Kind, iV x46.N, .string x46.S]) (cs' := [iV x46.Kind, iV x46.N, .string x46.S]) 0 rfl rfl rfl rfl bh rfl rfl rfl) ?_
    rintro _ _ rfl
    refine run ?_
    obtain ⟨b48, hb48, h⟩ := aa h
    refine aX 4 53 b48 ?_ ?_
    ·clear h
     refine aY 49 rfl (fun g48 => ?_) (fun g48 => ?_)
     ·have h := ah g48 hb48
      refine run ?_
      obtain rfl := aq h
      exact ak sA (ad [0, 1, 2, 3, 4, 5] 6 rfl rfl)
     have h := ai g48 hb48
     refine run ?_
     obtain rfl := aq h
     exact ak sA (ad [0, 1, 2, 3, 4, 5] 6 rfl rfl)
    refine run ?_
    refine ay rfl (fun g49 => ?_) (fun g49 => ?_)
    ·replace h := ah g49 h
     refine run ?_
     refine gD (bm (R := (dS .i64)) (vss := [[iV x46.N]]) (xs := [x46.N]) rfl (gG _) rfl rfl (fun _ _ hr => .cons rfl All2.nil)) ?_
     rintro _ _ ⟨A50, n50, c50, rfl, rfl⟩
     obtain ⟨q51, h⟩ := ap h
     refine gD (bF 2 0 rfl rfl aH rfl rfl Tryz.underlying35 Ac rfl rfl q51) ?_
     rintro _ _ ⟨A52, n52, c52, rfl, rfl⟩
     refine bC ([br A50 n50 c50 ([x46.N] : List Int), ag B47 38 [iV x46.Kind, iV x46.N, .string x46.S], br A52 n52 c52 (p41 ++ ([x46.N] : List Int)), av A3 n3 c3 a1, aF A1 n1 c1 a0.Young, aF A2 n2 c2 a0.Old, ag B4 24 [.slice A1 n1 c1, .slice A2 n2 c2]]) rfl ?_
     refine run ?_
     exact ⟨_, _, ⟨p41 ++ ([x46.N] : List Int), A52, n52, c52, h, rfl, rfl⟩, sA, ad [2, 3, 4, 5, 6] 7 rfl rfl⟩
    replace h := ai g49 h
    refine run ?_
    exact ⟨_, _, ⟨p41, A41, n41, c41, h, rfl, rfl⟩, sA, ad [1, 2, 3, 4, 5] 6 rfl rfl⟩
   rintro _ _ ⟨p45, A45, n45, c45, h, rfl, rfl⟩
   refine cx ?_
   obtain ⟨q53, h⟩ := ap h
   refine gE (aR rfl rfl q53.1 q53.2) ?_
   refine run ?_
   exact ⟨m40, _, _, Nat.lt_succ_self _, ⟨p45, p42 + 1, A45, n45, c45, h, rfl, rfl⟩, sA, ad [0, 1, 2, 3, 4] 5 rfl rfl⟩
  replace h := ai g43 h
  refine run ?_
  exact ⟨_, _, ⟨p41, A41, n41, c41, h, rfl, rfl⟩, sA, ad [0, 2, 3, 4] 5 rfl rfl⟩
 rintro _ _ ⟨p39, A39, n39, c39, h, rfl, rfl⟩
 refine aB ?_
 refine run ?_
 refine gE (dU rfl) ?_
 obtain ⟨y54, hy54, h⟩ := aa h
 refine gD (am (cC hy54 ⟨mem_cons rfl (mem_cons rfl (mem_cons rfl ae)), 130, #[], #[pV B4 0], rfl, GZ, fun _ _ hh => ti hh⟩) so rfl (mem_cons (aK (i := 0) rfl) (mem_cons (fm (i := 3) rfl) (mem_cons (aj (i := 1) rfl rfl) (mem_cons (aj (i := 2) rfl rfl) ae)))) cn) ?_
 rintro _ _ ⟨_, ⟨rfl, rfl⟩, rfl⟩
 refine run ?_
 refine ay rfl (fun g55 => ?_) (fun g55 => ?_)
 ·replace h := ah g55 h
  refine run ?_
  obtain rfl := aq h
  exact aQ rfl rfl (ad [] 4 rfl rfl) ⟨rfl, rfl⟩
 replace h := ai g55 h
 refine run ?_
 obtain rfl := aq h
 exact aQ rfl rfl (ad [] 4 rfl rfl) ⟨rfl, rfl⟩
theorem uk {r : Int} : ∀ v post, ((fun (u : Value) (post : List Chunk) => u = iV r ∧ post = [])) v post → ∀ c ∈ post, cZ c := by
 rintro _ _ ⟨rfl, rfl⟩; exact ae
def nz (N : Nat) (a0 : DCell) : Option Bool :=
 (bif decide (a0.Kind = 10) then ((dP N a0).bind fun y5 => some y5) else (some false)).bind fun b4 => some b4
theorem zF {N : Nat} {a0 : DCell} {r : Bool} (h : nz N a0 = some r) : Okc Tryz.prog 135 [.agg #[iV a0.Kind, iV a0.Shape, iV a0.Flags, iV a0.Age, .slice A1 n1 c1, .slice A2 n2 c2]] ([av A1 n1 c1 a0.Slots, av A2 n2 c2 a0.More]) (fun u post => u = .bool r ∧ post = []) := by
 refine bN Tryz.func135 rfl rfl ?_
 simp only [bc]
 refine run ?_
 refine gD (bo rfl rfl) ?_
 rintro _ _ ⟨B3, rfl, rfl⟩
 refine run ?_
 obtain ⟨b4, hb4, h⟩ := aa h
 refine aX 3 9 b4 ?_ ?_
 ·clear h
  refine aY 6 rfl (fun g4 => ?_) (fun g4 => ?_)
  ·have h := ah g4 hb4
   refine cY (aC (us := [iV a0.Kind, iV a0.Shape, iV a0.Flags, iV a0.Age, .slice A1 n1 c1, .slice A2 n2 c2]) 0 rfl rfl bu rfl) rfl (bd g4 rfl) rfl ?_
   obtain ⟨y5, hy5, h⟩ := aa h
   refine dj (am (fD hy5) sq rfl (mem_cons (aj (i := 1) rfl rfl) (mem_cons (aj (i := 2) rfl rfl) ae)) ee) rfl (bd g4 rfl) rfl ?_
   rintro _ _ ⟨_, ⟨rfl, rfl⟩, rfl⟩
   refine run ?_
   obtain rfl := aq h
   exact ak sA (ad [0, 1, 2] 3 rfl rfl)
  have h := ai g4 hb4
  refine run ?_
  obtain rfl := aq h
  exact ak sA (ad [0, 1, 2] 3 rfl rfl)
 refine run ?_
 obtain rfl := aq h
 exact aQ rfl rfl (ad [] 3 rfl rfl) ⟨rfl, rfl⟩
theorem xd {r : Bool} : ∀ v post, ((fun (u : Value) (post : List Chunk) => u = .bool r ∧ post = [])) v post → ∀ c ∈ post, cZ c := by
 rintro _ _ ⟨rfl, rfl⟩; exact ae
def nS (N : Nat) (a0 : DCell) : Option DCell :=
 (eJ N a0.Slots).bind fun y5 => (aG a0.More 0).bind fun x7 => some (⟨a0.Kind, a0.Shape, a0.Flags, a0.Age, y5, ([x7] : List DValue)⟩ : DCell)
theorem xe {N : Nat} {a0 : DCell} {r : DCell} (h : nS N a0 = some r) : Okc Tryz.prog 136 [.agg #[iV a0.Kind, iV a0.Shape, iV a0.Flags, iV a0.Age, .slice A1 n1 c1, .slice A2 n2 c2]] ([av A1 n1 c1 a0.Slots, av A2 n2 c2 a0.More]) (fun u post => ∃ A0 n0 c0 A1 n1 c1, u = .agg #[iV r.Kind, iV r.Shape, iV r.Flags, iV r.Age, .slice A0 n0 c0, .slice A1 n1 c1] ∧ post = [bD A0 n0 c0 r.Slots, bD A1 n1 c1 r.More]) := by
 refine bN Tryz.func136 rfl rfl ?_
 simp only [bc]
 refine run ?_
 refine gD (bo rfl rfl) ?_
 rintro _ _ ⟨B3, rfl, rfl⟩
 refine gD (aJ dR rfl) ?_
 rintro _ _ ⟨B4, rfl, rfl⟩
 refine run ?_
 obtain ⟨y5, hy5, h⟩ := aa h
 refine gD (am (lu hy5) zV rfl (mem_cons (aj (i := 2) rfl rfl) ae) jA) ?_
 rintro _ _ ⟨_, ⟨A6, n6, c6, rfl, rfl⟩, rfl⟩
 refine run ?_
 refine gO (ar (us := [.slice A6 n6 c6]) (cs' := [iV a0.Kind, iV a0.Shape, iV a0.Flags, iV a0.Age, .slice A6 n6 c6, .slice A2 n2 c2]) 2 rfl rfl rfl rfl iL rfl rfl rfl) ?_
 rintro _ _ rfl
 refine run ?_
 obtain ⟨x7, hx7, h⟩ := aa h
 obtain ⟨lx7, ux7, hx7⟩ := au hx7
 refine gR (aM 4 rfl ao rfl rfl Tryz.underlying25 bh lx7 ux7) ?_
 refine gR (bA (us := [iV x7.Kind, iV x7.N, .string x7.S]) 4 rfl ao rfl hx7 ca (fun _ _ _ h => by rw [show _ = _ from h]; rfl)) ?_
 refine gD (bm (R := aw) (vss := [[iV x7.Kind, iV x7.N, .string x7.S]]) (xs := [x7]) rfl (mW _ _ _) rfl rfl (fun _ _ hr => .cons rfl All2.nil)) ?_
 rintro _ _ ⟨A8, n8, c8, rfl, rfl⟩
 refine run ?_
 refine gO (ar (us := [.slice A8 n8 c8]) (cs' := [iV a0.Kind, iV a0.Shape, iV a0.Flags, iV a0.Age, .slice A6 n6 c6, .slice A8 n8 c8]) 3 rfl rfl rfl rfl iL rfl rfl rfl) ?_
 rintro _ _ rfl
 refine run ?_
 refine gR (aC (us := [iV a0.Kind, iV a0.Shape, iV a0.Flags, iV a0.Age, .slice A6 n6 c6, .slice A8 n8 c8]) 3 rfl rfl bu rfl) ?_
 refine gO (ar (us := [iV a0.Kind, iV a0.Shape, iV a0.Flags, iV a0.Age, .slice A6 n6 c6, .slice A8 n8 c8]) (cs' := [iV a0.Kind, iV a0.Shape, iV a0.Flags, iV a0.Age, .slice A6 n6 c6, .slice A8 n8 c8]) 2 rfl rfl rfl rfl bz rfl rfl rfl) ?_
 rintro _ _ rfl
 refine bC ([bD A8 n8 c8 ([x7] : List DValue), bD A6 n6 c6 y5, ag B4 32 [iV a0.Kind, iV a0.Shape, iV a0.Flags, iV a0.Age, .slice A6 n6 c6, .slice A8 n8 c8], ag B3 32 [iV a0.Kind, iV a0.Shape, iV a0.Flags, iV a0.Age, .slice A6 n6 c6, .slice A8 n8 c8], av A1 n1 c1 a0.Slots, av A2 n2 c2 a0.More]) rfl ?_
 refine run ?_
 obtain rfl := aq h
 exact eP (rs := [.cell 2 32]) (vs := [.agg #[iV a0.Kind, iV a0.Shape, iV a0.Flags, iV a0.Age, .slice A6 n6 c6, .slice A8 n8 c8]]) rfl (.cons (dn 2 rfl rfl bu) .nil) rfl (ad [1, 0] 6 rfl rfl) ⟨_, _, _, _, _, _, rfl, rfl⟩
theorem ur {r : DCell} : ∀ v post, ((fun (u : Value) (post : List Chunk) => ∃ A0 n0 c0 A1 n1 c1, u = .agg #[iV r.Kind, iV r.Shape, iV r.Flags, iV r.Age, .slice A0 n0 c0, .slice A1 n1 c1] ∧ post = [bD A0 n0 c0 r.Slots, bD A1 n1 c1 r.More])) v post → ∀ c ∈ post, cZ c := by
 rintro _ _ ⟨_, _, _, _, _, _, rfl, rfl⟩; exact mem_cons bS (mem_cons bS (ae))
def finreg_entries_c1_l4 (N : Nat) {σ : Type} (fy : (Int × (List DValue)) → σ → Option (Bool × σ)) (a1 : DCell) : Nat → Int → σ → Option σ
 | 0, _, _ => none
 | m4 + 1, p5, p6 => bM (in64 (p5 + 4)) (bif decide (p5 + 4 ≤ (a1.More.length : Int)) then (bM (in64 (p5 + 4)) (bM (in64 (p5 + 4)) (bM ((0 : Int) ≤ p5 ∧ (0 : Int) ≤ p5 + 4 ∧ p5.toNat ≤ (p5 + 4).toNat ∧ (p5 + 4).toNat ≤ a1.More.length) ((fy (p5, (a1.More.drop p5.toNat).take ((p5 + 4).toNat - p5.toNat)) p6).bind fun y13 => bif !y13.1 then (some y13.2) else (bM (in64 (p5 + 4)) ((finreg_entries_c1_l4 N fy a1 m4) (p5 + 4) y13.2)))))) else (some p6))
def iO (N : Nat) {σ : Type} (a1 : DCell) (fy : (Int × (List DValue)) → σ → Option (Bool × σ)) (s0 : σ) : Option σ :=
 finreg_entries_c1_l4 N fy a1 N 1 s0
theorem qf {N : Nat} {σ : Type} {a1 : DCell} {fy : (Int × (List DValue)) → σ → Option (Bool × σ)} {s0 : σ} {r : σ} (h : iO N a1 fy s0 = some r) {l : Nat} {G : σ → List Chunk} (hY : oD Tryz.prog l G (fun (x : Int × (List DValue)) vs cs => ∃ A1 n1 c1, vs = [iV x.1, .slice A1 n1 c1] ∧ cs = [av A1 n1 c1 x.2]) fy) : Okc Tryz.prog 180 [.func (.yield l) #[] #[], pV B1 0] (bU B1 32 [iV a1.Kind, iV a1.Shape, iV a1.Flags, iV a1.Age, .slice A2 n2 c2, .slice A3 n3 c3] :: av A2 n2 c2 a1.Slots :: av A3 n3 c3 a1.More :: (G s0)) (fun u post => u = .tuple #[] ∧ post = G r) := by
 refine bN Tryz.func180 rfl rfl ?_
 simp only [bc]
 refine run ?_
 refine bp (fun m s L => ∃ p5 p6, finreg_entries_c1_l4 N fy a1 m p5 p6 = some r ∧ s = [(0, .func (.yield l) #[] #[]), (1, pV B1 0), (3, iV p5)] ∧ L = av A2 n2 c2 a1.Slots :: av A3 n3 c3 a1.More :: bU B1 32 [iV a1.Kind, iV a1.Shape, iV a1.Flags, iV a1.Age, .slice A2 n2 c2, .slice A3 n3 c3] :: (G p6)) N _ _ ⟨1, s0, h, rfl, rfl⟩ sA (ad [1, 2, 0] 3 rfl rfl) ?_
 rintro (_ | m4) _ _ ⟨p5, p6, h, rfl, rfl⟩
 ·exact aD h
 rw [finreg_entries_c1_l4.eq_2] at h
 refine aB ?_
 refine run ?_
 obtain ⟨q7, h⟩ := ap h
 refine gE (aR rfl rfl q7.1 q7.2) ?_
 refine run ?_
 refine gR (ci 2 rfl rfl fe rfl) ?_
 refine gR (aL 1 rfl ao rfl Tryz.underlying25) ?_
 refine run ?_
 refine ay rfl (fun g8 => ?_) (fun g8 => ?_)
 ·replace h := ah g8 h
  refine run ?_
  refine aB ?_
  refine run ?_
  refine gR (ci 2 rfl rfl fe rfl) ?_
  refine run ?_
  obtain ⟨q9, h⟩ := ap h
  refine gE (aR rfl rfl q9.1 q9.2) ?_
  refine run ?_
  obtain ⟨q10, h⟩ := ap h
  refine gE (aR rfl rfl q10.1 q10.2) ?_
  obtain ⟨q11, h⟩ := ap h
  refine F1 1 rfl (l := p5.toNat) (h := (p5 + 4).toNat) q11.2.2.1 q11.2.2.2 ?_
  rintro A12 n12 c12 e12
  refine gR (CP 2 rfl e12 rfl Tryz.underlying25 bh rfl (by rw [Int.toNat_of_nonneg q11.1]; rfl) (by rw [Int.toNat_of_nonneg q11.2.1]; rfl) (by rw [Int.toNat_of_nonneg q11.2.1]; rfl) q11.2.2.1 q11.2.2.2) ?_
  obtain ⟨y13, hy13, h⟩ := aa h
  refine gD (yl (a := (p5, (a1.More.drop p5.toNat).take ((p5 + 4).toNat - p5.toNat))) [av A12 n12 c12 ((a1.More.drop p5.toNat).take ((p5 + 4).toNat - p5.toNat)), av A2 n2 c2 a1.Slots, av A3 n3 c3 a1.More, bU B1 32 [iV a1.Kind, iV a1.Shape, iV a1.Flags, iV a1.Age, .slice A2 n2 c2, .slice A3 n3 c3]] hY hy13 rfl rfl ⟨_, _, _, rfl, rfl⟩ (cW 0 rfl rfl)) ?_
  rintro _ _ ⟨rfl, rfl⟩
  refine run ?_
  refine ay rfl (fun g14 => ?_) (fun g14 => ?_)
  ·replace h := ah g14 h
   refine run ?_
   obtain rfl := aq h
   exact yM rfl (ad [] 4 rfl rfl) ⟨rfl, rfl⟩
  replace h := ai g14 h
  refine run ?_
  obtain ⟨q15, h⟩ := ap h
  refine gE (aR rfl rfl q15.1 q15.2) ?_
  refine run ?_
  exact ⟨m4, _, _, Nat.lt_succ_self _, ⟨p5 + 4, y13.2, h, rfl, rfl⟩, sA, ad [1, 2, 3] 4 rfl rfl⟩
 replace h := ai g8 h
 refine run ?_
 obtain rfl := aq h
 exact jo rfl (ad [] 3 rfl rfl) ⟨rfl, rfl⟩
def kA (N : Nat) (a0 : DCell) : Option Unit :=
 some ()
theorem tv {N : Nat} {a0 : DCell} {r : Unit} (h : kA N a0 = some r) : Okc Tryz.prog 137 [.agg #[iV a0.Kind, iV a0.Shape, iV a0.Flags, iV a0.Age, .slice A1 n1 c1, .slice A2 n2 c2]] ([av A1 n1 c1 a0.Slots, av A2 n2 c2 a0.More]) (fun u post => ∃ B900, u = .func (.func 180) #[] #[pV B900 0] ∧ post = [ag B900 32 [iV a0.Kind, iV a0.Shape, iV a0.Flags, iV a0.Age, .slice A1 n1 c1, .slice A2 n2 c2]]) := by
 refine bN Tryz.func137 rfl rfl ?_
 simp only [bc]
 refine run ?_
 refine gD (bo rfl rfl) ?_
 rintro _ _ ⟨B3, rfl, rfl⟩
 refine run ?_
 refine gE (dU rfl) ?_
 refine run ?_
 obtain rfl := aq h
 exact aQ rfl rfl (ad [0] 3 rfl rfl) ⟨_, rfl, rfl⟩
theorem re {a0 : DCell} {A1 : Option Addr} {n1 : Nat} {c1 : Nat} {A2 : Option Addr} {n2 : Nat} {c2 : Nat} : ∀ v post, ((fun (u : Value) (post : List Chunk) => ∃ B900, u = .func (.func 180) #[] #[pV B900 0] ∧ post = [ag B900 32 [iV a0.Kind, iV a0.Shape, iV a0.Flags, iV a0.Age, .slice A1 n1 c1, .slice A2 n2 c2]])) v post → ∀ c ∈ post, cZ c := by
 rintro _ _ ⟨_, rfl, rfl⟩; exact mem_cons mI (ae)
def iD (N : Nat) (x28 : (Int × (List DValue))) (a0 : DCell) (p14 : (List (Int × Bool))) (y21 : (DCell)) (p30 : (List DValue)) (p31 : (List DValue)) (p46 : Int) (p47 : Int) (p48 : ByteArray) : Option (Option Exit × (List DValue) × (List DValue)) :=
 (aG x28.2 0).bind fun x51 => (aG x28.2 1).bind fun x52 => (aG x28.2 3).bind fun x53 => bM (cD (p30.length + ([x51, x52, (⟨p46, p47, p48⟩ : DValue), x53] : List DValue).length)) (some (none, (p30 ++ ([x51, x52, (⟨p46, p47, p48⟩ : DValue), x53] : List DValue), p31)))
def dH (N : Nat) (a0 : DCell) (p14 : (List (Int × Bool))) (y21 : (DCell)) (x28 : Int × (List DValue)) : ((List DValue) × (List DValue)) → Option (Option Exit × ((List DValue) × (List DValue)))
 |(p30, p31) => (aG x28.2 0).bind fun x34 => bif !((lk p14 x34.N).getD false) then ((aG a0.More 0).bind fun x36 => (aG x28.2 1).bind fun x37 => (aG x28.2 3).bind fun x38 => bM (cD (p31.length + ([x36, x37, x38] : List DValue).length)) (some (none, (p30, p31 ++ ([x36, x37, x38] : List DValue))))) else ((aG x28.2 2).bind fun x43 => (bif decide (x43.Kind = 7) then (some (!((lk p14 x43.N).getD false))) else (some false)).bind fun b49 => bif b49 then (iD N x28 a0 p14 y21 p30 p31 0 0 (⟨#[]⟩)) else (iD N x28 a0 p14 y21 p30 p31 x43.Kind x43.N x43.S))
def kB (N : Nat) (a0 : DCell) (p14 : (List (Int × Bool))) : Option (DCell × (List DValue)) :=
 (nS N a0).bind fun y21 => (kA N a0).bind fun y26 => (iO N a0 (cK (fun x st => dH N a0 p14 y21 x st)) (none, (y21.More, []))).bind fun y32 => oz y32.1 (some ((⟨y21.Kind, y21.Shape, y21.Flags, y21.Age, y21.Slots, y32.2.1⟩ : DCell), y32.2.2)) none (fun _ => none)
def finreg_Clean_l15 (N : Nat) (a1 : (List Int)) (a0 : DCell) : Nat → Int → (List (Int × Bool)) → Option (DCell × (List DValue))
 | 0, _, _ => none
 | m15 + 1, p16, p17 => bif decide (p16 < (a1.length : Int)) then ((aG a1 p16).bind fun x19 => bM (in64 (p16 + 1)) ((finreg_Clean_l15 N a1 a0 m15) (p16 + 1) (na p17 x19 true))) else (kB N a0 p17)
def im (N : Nat) (a0 : DCell) (a1 : (List Int)) : Option (DCell × (List DValue)) :=
 (nz N a0).bind fun y6 => bif !y6 then (some ((⟨0, 0, 0, 0, [], []⟩ : DCell), [])) else (finreg_Clean_l15 N a1 a0 N 0 ([] : (List (Int × Bool))))
set_option maxHeartbeats 4000000 in
theorem ph {N : Nat} {a0 : DCell} {a1 : (List Int)} {r : (DCell × (List DValue))} (h : im N a0 a1 = some r) : Okc Tryz.prog 81 [.agg #[iV a0.Kind, iV a0.Shape, iV a0.Flags, iV a0.Age, .slice A1 n1 c1, .slice A2 n2 c2], .slice A3 n3 c3] ([av A1 n1 c1 a0.Slots, av A2 n2 c2 a0.More, cm A3 n3 c3 a1]) (fun u post => ∃ A0 n0 c0 A1 n1 c1 A2 n2 c2, u = .tuple #[.agg #[iV r.1.Kind, iV r.1.Shape, iV r.1.Flags, iV r.1.Age, .slice A0 n0 c0, .slice A1 n1 c1], .slice A2 n2 c2] ∧ post = [bD A0 n0 c0 r.1.Slots, bD A1 n1 c1 r.1.More, bD A2 n2 c2 r.2]) := by
 refine bN Tryz.func81 rfl rfl ?_
 simp only [bc]
 refine run ?_
 refine gD (bo rfl rfl) ?_
 rintro _ _ ⟨B4, rfl, rfl⟩
 refine gD (aJ dR rfl) ?_
 rintro _ _ ⟨B5, rfl, rfl⟩
 refine run ?_
 refine aB ?_
 refine run ?_
 refine gR (aC (us := [iV a0.Kind, iV a0.Shape, iV a0.Flags, iV a0.Age, .slice A1 n1 c1, .slice A2 n2 c2]) 1 rfl rfl bu rfl) ?_
 obtain ⟨y6, hy6, h⟩ := aa h
 refine gD (am (zF hy6) GW rfl (mem_cons (aj (i := 2) rfl rfl) (mem_cons (aj (i := 3) rfl rfl) ae)) xd) ?_
 rintro _ _ ⟨_, ⟨rfl, rfl⟩, rfl⟩
 refine run ?_
 refine ay rfl (fun g7 => ?_) (fun g7 => ?_)
 ·replace h := ah g7 h
  refine run ?_
  refine gE (cU rfl (zY)) ?_
  refine gO (ar (us := [iV 0, iV 0, iV 0, iV 0, .slice none 0 0, .slice none 0 0]) (cs' := [iV 0, iV 0, iV 0, iV 0, .slice none 0 0, .slice none 0 0]) 0 rfl rfl rfl rfl bz rfl rfl rfl) ?_
  rintro _ _ rfl
  refine run ?_
  obtain rfl := aq h
  exact eP (rs := [.cell 4 32, .tmp 5]) (vs := [.agg #[iV 0, iV 0, iV 0, iV 0, .slice none 0 0, .slice none 0 0], .slice none 0 0]) rfl (.cons (dn 0 rfl rfl bu) (.cons (ji rfl) .nil)) rfl ((cH aw 38 _).trans ((cH aw 38 _).trans ((cH aw 38 _).trans (ad [2, 1, 0] 8 rfl rfl)))) ⟨_, _, _, _, _, _, _, _, _, rfl, rfl⟩
 replace h := ai g7 h
 refine run ?_
 refine gR (aL 4 rfl ao rfl Tryz.underlying35) ?_
 refine gD (uL (ek := bQ) (ev := eT) rfl Tryz.underlying107) ?_
 rintro _ _ ⟨M11, rfl, rfl⟩
 refine gD (aJ F4 rfl) ?_
 rintro _ _ ⟨B12, rfl, rfl⟩
 refine gO (ar (us := [.map (some M11)]) (cs' := [.map (some M11)]) 0 rfl rfl rfl rfl Ga rfl rfl rfl) ?_
 rintro _ _ rfl
 refine run ?_
 refine aS (fun s L => ∃ p14, kB N a0 p14 = some r ∧ s = [(2, pV B4 0), (4, pV B5 0), (5, .slice none 0 0), (6, pV B12 0)] ∧ L = [av A1 n1 c1 a0.Slots, av A2 n2 c2 a0.More, ag B4 32 [iV a0.Kind, iV a0.Shape, iV a0.Flags, iV a0.Age, .slice A1 n1 c1, .slice A2 n2 c2], ag B5 32 [iV 0, iV 0, iV 0, iV 0, .slice none 0 0, .slice none 0 0], aN bQ eT M11 p14, ag B12 107 [.map (some M11)]]) ?_ ?_
 ·refine run ?_
  refine gR (aL 6 rfl ao rfl Tryz.underlying35) ?_
  refine run ?_
  refine bp (fun m s L => ∃ p16 p17, finreg_Clean_l15 N a1 a0 m p16 p17 = some r ∧ s = [(2, pV B4 0), (4, pV B5 0), (5, .slice none 0 0), (6, pV B12 0), (21, .slice A3 n3 c3), (22, iV (a1.length : Int)), (23, iV p16)] ∧ L = [cm A3 n3 c3 a1, av A1 n1 c1 a0.Slots, av A2 n2 c2 a0.More, ag B4 32 [iV a0.Kind, iV a0.Shape, iV a0.Flags, iV a0.Age, .slice A1 n1 c1, .slice A2 n2 c2], ag B5 32 [iV 0, iV 0, iV 0, iV 0, .slice none 0 0, .slice none 0 0], aN bQ eT M11 p17, ag B12 107 [.map (some M11)]]) N _ _ ⟨0, ([] : (List (Int × Bool))), h, rfl, rfl⟩ sA (ad [6, 4, 5, 3, 2, 1, 0] 7 rfl rfl) ?_
  rintro (_ | m15) _ _ ⟨p16, p17, h, rfl, rfl⟩
  ·exact aD h
  rw [finreg_Clean_l15.eq_2] at h
  refine run ?_
  refine aB ?_
  refine ay rfl (fun g18 => ?_) (fun g18 => ?_)
  ·replace h := ah g18 h
   refine run ?_
   refine aB ?_
   refine run ?_
   obtain ⟨x19, hx19, h⟩ := aa h
   obtain ⟨lx19, ux19, hx19⟩ := au hx19
   refine gR (aM 0 rfl ao rfl rfl Tryz.underlying35 dD lx19 ux19) ?_
   refine gR (bK (u := iV x19) 0 rfl ao rfl hx19 eo (fun _ _ _ h => by rw [show _ = _ from h]; rfl)) ?_
   refine run ?_
   refine gO (fd (a := x19) (b := true) 5 rfl rfl rfl rfl Tryz.underlying107 (cB Tryz.underlying3)) ?_
   rintro _ _ rfl
   refine bC ([cm A3 n3 c3 a1, av A1 n1 c1 a0.Slots, av A2 n2 c2 a0.More, ag B4 32 [iV a0.Kind, iV a0.Shape, iV a0.Flags, iV a0.Age, .slice A1 n1 c1, .slice A2 n2 c2], ag B5 32 [iV 0, iV 0, iV 0, iV 0, .slice none 0 0, .slice none 0 0], aN bQ eT M11 (na p17 x19 true), ag B12 107 [.map (some M11)]]) rfl ?_
   refine run ?_
   obtain ⟨q20, h⟩ := ap h
   refine gE (aR rfl rfl q20.1 q20.2) ?_
   refine run ?_
   exact ⟨m15, _, _, Nat.lt_succ_self _, ⟨p16 + 1, na p17 x19 true, h, rfl, rfl⟩, sA, ad [0, 1, 2, 3, 4, 5, 6] 7 rfl rfl⟩
  replace h := ai g18 h
  refine run ?_
  exact ⟨_, _, ⟨p17, h, rfl, rfl⟩, sA, ad [1, 2, 3, 4, 5, 6] 7 rfl rfl⟩
 rintro _ _ ⟨p14, h, rfl, rfl⟩
 refine run ?_
 refine gR (aC (us := [iV a0.Kind, iV a0.Shape, iV a0.Flags, iV a0.Age, .slice A1 n1 c1, .slice A2 n2 c2]) 2 rfl rfl bu rfl) ?_
 obtain ⟨y21, hy21, h⟩ := aa h
 refine gD (am (xe hy21) GV rfl (mem_cons (aj (i := 0) rfl rfl) (mem_cons (aj (i := 1) rfl rfl) ae)) ur) ?_
 rintro _ _ ⟨_, ⟨A22, n22, c22, A23, n23, c23, rfl, rfl⟩, rfl⟩
 refine gD (aJ dR rfl) ?_
 rintro _ _ ⟨B24, rfl, rfl⟩
 refine gO (ar (us := [iV y21.Kind, iV y21.Shape, iV y21.Flags, iV y21.Age, .slice A22 n22 c22, .slice A23 n23 c23]) (cs' := [iV y21.Kind, iV y21.Shape, iV y21.Flags, iV y21.Age, .slice A22 n22 c22, .slice A23 n23 c23]) 0 rfl rfl rfl rfl bz rfl rfl rfl) ?_
 rintro _ _ rfl
 refine run ?_
 refine gD (aJ Ey rfl) ?_
 rintro _ _ ⟨B25, rfl, rfl⟩
 refine run ?_
 refine aB ?_
 refine run ?_
 refine gR (aC (us := [iV a0.Kind, iV a0.Shape, iV a0.Flags, iV a0.Age, .slice A1 n1 c1, .slice A2 n2 c2]) 6 rfl rfl bu rfl) ?_
 obtain ⟨y26, hy26, h⟩ := aa h
 refine gD (am (tv hy26) GU rfl (mem_cons (aj (i := 4) rfl rfl) (mem_cons (aj (i := 5) rfl rfl) ae)) re) ?_
 rintro _ _ ⟨_, ⟨B27, rfl, rfl⟩, rfl⟩
 refine nH ?_
 refine lN ?_
 refine dK ?_ cw (fO 0 rfl)
 obtain ⟨y32, hy32, h⟩ := aa h
 refine zc (R := (fun (x : Int × (List DValue)) vs cs => ∃ A1 n1 c1, vs = [iV x.1, .slice A1 n1 c1] ∧ cs = [av A1 n1 c1 x.2])) (fun x st => dH N a0 p14 y21 x st) (fun (st : (List DValue) × (List DValue)) (mz : ((Option Addr × Nat × Nat) × (Option Addr × Nat × Nat))) => [av A1 n1 c1 a0.Slots, av A2 n2 c2 a0.More, ag B4 32 [iV a0.Kind, iV a0.Shape, iV a0.Flags, iV a0.Age, .slice A1 n1 c1, .slice A2 n2 c2], ag B5 32 [iV 0, iV 0, iV 0, iV 0, .slice none 0 0, .slice none 0 0], aN bQ eT M11 p14, ag B12 107 [.map (some M11)], bD A22 n22 c22 y21.Slots, dz aw 38 (.slice mz.1.1 mz.1.2.1 mz.1.2.2) st.1, ag B24 32 [iV y21.Kind, iV y21.Shape, iV y21.Flags, iV y21.Age, .slice A22 n22 c22, .slice mz.1.1 mz.1.2.1 mz.1.2.2], dz aw 38 (.slice mz.2.1 mz.2.2.1 mz.2.2.2) st.2, ag B25 25 [.slice mz.2.1 mz.2.2.1 mz.2.2.2]]) [bU B27 32 [iV a0.Kind, iV a0.Shape, iV a0.Flags, iV a0.Age, .slice A1 n1 c1, .slice A2 n2 c2], av A1 n1 c1 a0.Slots, av A2 n2 c2 a0.More] ((y21.More, [])) (((A23, n23, c23), (none, 0, 0))) rfl rfl GL rfl (by rintro _ _ _ ⟨_, _, _, rfl, rfl⟩; rfl) (fun l G hY => (qf hy32 hY).mono fun _ _ hh => hh.2) ((cH aw 38 _).trans (be [1, 6, 7] [] [6, 7, 8, 9, 10, 11, 4, 5, 3, 0, 2] 12 rfl)) h ?_ ?_ ?_ ?_
 ·rintro l x28 ⟨p30, p31⟩ je sr28 ⟨⟨A30, n30, c30⟩, ⟨A31, n31, c31⟩⟩ h _ _ ⟨A29, n29, c29, rfl, rfl⟩
  replace h : dH N a0 p14 y21 x28 (p30, p31) = some (je, sr28) := h
  simp only [sd, List.zip_cons_cons, List.zip_nil_left, List.zip_nil_right, List.reverse_cons, List.reverse_nil, List.nil_append, List.cons_append]
  refine run ?_
  refine aB ?_
  refine aB ?_
  refine dB (by kernel_rfl) _ (ab _) ?_
  refine bv 0 rfl (by kernel_rfl) (aO 6 rfl rfl BW rfl) rfl rfl ?_
  refine aI 1 rfl (by kernel_rfl) (az rfl) rfl rfl ?_
  obtain ⟨x34, hx34, h⟩ := aa h
  obtain ⟨lx34, ux34, hx34⟩ := au hx34
  refine bv 2 rfl (by kernel_rfl) (aM 0 rfl ao rfl rfl Tryz.underlying25 bh lx34 ux34) rfl rfl ?_
  refine bv 3 rfl (by kernel_rfl) (rv 0 rfl ao rfl (dC lx34 ux34) qR) rfl rfl ?_
  refine bv 4 rfl (by kernel_rfl) (bK (u := iV x34.N) 0 rfl ao rfl hx34 eo (fun _ _ _ h => by rw [show _ = _ from h]; rfl)) rfl rfl ?_
  refine bv 5 rfl (by kernel_rfl) (wq (a := x34.N) (z := false) 5 rfl qb rfl rfl Tryz.underlying107 (cB Tryz.underlying3) Ae) rfl rfl ?_
  refine aI 6 rfl (by kernel_rfl) (xh rfl) rfl rfl ?_
  refine dA (by kernel_rfl) ?_
  refine lN ?_
  refine ay rfl (fun g35 => ?_) (fun g35 => ?_)
  ·replace h := ah g35 h
   refine aB ?_
   obtain ⟨x36, hx36, h⟩ := aa h
   obtain ⟨lx36, ux36, hx36⟩ := au hx36
   obtain ⟨x37, hx37, h⟩ := aa h
   obtain ⟨lx37, ux37, hx37⟩ := au hx37
   obtain ⟨x38, hx38, h⟩ := aa h
   obtain ⟨lx38, ux38, hx38⟩ := au hx38
   refine dK (t := [(2, pV B4 0), (4, pV B5 0), (5, .slice none 0 0), (6, pV B12 0), (9, pV B24 0), (10, pV B25 0), (12, .slice A29 n29 c29)]) ?_ fU (ab _)
   refine d9 (by kernel_rfl) 12 [] [0, 11] [43, 44, 45, 46, 47, 48, 49, 50, 51, 52, 53, 54] [[], [], [1], [2], [3], [], [5], [6], [], [8], [9], [4, 7, 10]] [aV (.slice A31 n31 c31),
aV (pV B4 5),
aV (.slice A2 n2 c2),
aV (cA (.slice A2 n2 c2) ((0 : Int).toNat) 3 0),
aV (.agg #[iV x36.Kind, iV x36.N, .string x36.S]),
aV (.slice A29 n29 c29),
aV (cA (.slice A29 n29 c29) ((1 : Int).toNat) 3 0),
aV (.agg #[iV x37.Kind, iV x37.N, .string x37.S]),
aV (.slice A29 n29 c29),
aV (cA (.slice A29 n29 c29) ((3 : Int).toNat) 3 0),
aV (.agg #[iV x38.Kind, iV x38.N, .string x38.S]),
aX3 (fun (A40 : Option Addr) (n40 c40 : Nat) => .slice A40 n40 c40) (fun A40 n40 c40 => [bD A40 n40 c40 ([x36, x37, x38] : List DValue)])] [] (ab _) (fM) (by kernel_rfl) rfl rfl ?_ ?_ ?_
   ·exact fL
   ·refine ac rfl ?_ ?_
    ·refine eg (bm (R := aw) (vss := [[iV x36.Kind, iV x36.N, .string x36.S], [iV x37.Kind, iV x37.N, .string x37.S], [iV x38.Kind, iV x38.N, .string x38.S]]) (xs := [x36, x37, x38]) rfl (Bi _ _ _ _ _ _ _ _ _) rfl rfl (fun _ _ hr => .cons rfl (.cons rfl (.cons rfl All2.nil)))) rfl ?_
     rintro _ _ ⟨A39, n39, c39, rfl, rfl⟩
     exact gX A39 n39 c39 (ab _)
    refine ac rfl ?_ ?_
    ·exact cc (bA (us := [iV x38.Kind, iV x38.N, .string x38.S]) 0 rfl ao rfl hx38 ca (fun _ _ _ h => by rw [show _ = _ from h]; rfl)) rfl (aA rfl (ab _))
    refine ac rfl ?_ ?_
    ·exact cc (aM 0 rfl ao rfl rfl Tryz.underlying25 bh lx38 ux38) rfl (aA rfl (ab _))
    refine ac rfl ?_ ?_
    ·exact aW (az rfl) rfl (aA rfl (ab _))
    refine ac rfl ?_ ?_
    ·exact cc (bA (us := [iV x37.Kind, iV x37.N, .string x37.S]) 0 rfl ao rfl hx37 ca (fun _ _ _ h => by rw [show _ = _ from h]; rfl)) rfl (aA rfl (ab _))
    refine ac rfl ?_ ?_
    ·exact cc (aM 0 rfl ao rfl rfl Tryz.underlying25 bh lx37 ux37) rfl (aA rfl (ab _))
    refine ac rfl ?_ ?_
    ·exact aW (az rfl) rfl (aA rfl (ab _))
    refine ac rfl ?_ ?_
    ·exact cc (bA (us := [iV x36.Kind, iV x36.N, .string x36.S]) 2 rfl ao rfl hx36 ca (fun _ _ _ h => by rw [show _ = _ from h]; rfl)) rfl (aA rfl (ab _))
    refine ac rfl ?_ ?_
    ·exact cc (aM 2 rfl ao rfl rfl Tryz.underlying25 bh lx36 ux36) rfl (aA rfl (ab _))
    refine ac rfl ?_ ?_
    ·exact cc (aO 3 rfl rfl fe rfl) rfl (aA rfl (ab _))
    refine ac rfl ?_ ?_
    ·exact aW (cr rfl gn) rfl (aA rfl (ab _))
    refine ac rfl ?_ ?_
    ·exact cc (aO 11 rfl rfl fe rfl) rfl (aA rfl (ab _))
    exact cO
   intro A40 n40 c40
   refine ip (t := [(43, .slice A31 n31 c31), (54, .slice A40 n40 c40), (2, pV B4 0), (4, pV B5 0), (5, .slice none 0 0), (6, pV B12 0), (9, pV B24 0), (10, pV B25 0), (12, .slice A29 n29 c29)]) (L' := [bD A40 n40 c40 ([x36, x37, x38] : List DValue), av A29 n29 c29 x28.2, av A1 n1 c1 a0.Slots, av A2 n2 c2 a0.More, ag B4 32 [iV a0.Kind, iV a0.Shape, iV a0.Flags, iV a0.Age, .slice A1 n1 c1, .slice A2 n2 c2], ag B5 32 [iV 0, iV 0, iV 0, iV 0, .slice none 0 0, .slice none 0 0], aN bQ eT M11 p14, ag B12 107 [.map (some M11)], bD A22 n22 c22 y21.Slots, bD A30 n30 c30 p30, ag B24 32 [iV y21.Kind, iV y21.Shape, iV y21.Flags, iV y21.Age, .slice A22 n22 c22, .slice A30 n30 c30], bD A31 n31 c31 p31, ag B25 25 [.slice A31 n31 c31]]) ?_ fU (ab _)
   obtain ⟨q41, h⟩ := ap h
   refine nG 12 rfl (by kernel_rfl) (bF 11 0 rfl rfl aH rfl rfl Tryz.underlying25 Bt rfl rfl q41) rfl rfl rfl ?_
   rintro _ _ ⟨A42, n42, c42, rfl, rfl⟩
   refine mX ([bD A40 n40 c40 ([x36, x37, x38] : List DValue), av A29 n29 c29 x28.2, av A1 n1 c1 a0.Slots, av A2 n2 c2 a0.More, ag B4 32 [iV a0.Kind, iV a0.Shape, iV a0.Flags, iV a0.Age, .slice A1 n1 c1, .slice A2 n2 c2], ag B5 32 [iV 0, iV 0, iV 0, iV 0, .slice none 0 0, .slice none 0 0], aN bQ eT M11 p14, ag B12 107 [.map (some M11)], bD A22 n22 c22 y21.Slots, bD A30 n30 c30 p30, ag B24 32 [iV y21.Kind, iV y21.Shape, iV y21.Flags, iV y21.Age, .slice A22 n22 c22, .slice A30 n30 c30], bD A42 n42 c42 (p31 ++ ([x36, x37, x38] : List DValue)), ag B25 25 [.slice A31 n31 c31]]) rfl ?_
   refine jY 13 rfl (by kernel_rfl) (ar (us := [.slice A42 n42 c42]) (cs' := [.slice A42 n42 c42]) 12 rfl rfl rfl rfl iL rfl rfl rfl) rfl rfl ?_
   rintro _ _ rfl
   refine fT (by kernel_rfl) ?_
   refine run ?_
   obtain ⟨rfl, rfl⟩ := Prod.mk.inj (Option.some.inj h)
   exact ux ((ad [2, 3, 4, 5, 6, 7, 8, 9, 10, 11, 12] 13 rfl rfl).trans (dF ((A30, n30, c30), (A42, n42, c42)) rfl))
  replace h := ai g35 h
  refine run ?_
  obtain ⟨x43, hx43, h⟩ := aa h
  obtain ⟨lx43, ux43, hx43⟩ := au hx43
  refine gR (aM 0 rfl ao rfl rfl Tryz.underlying25 bh lx43 ux43) ?_
  refine gR (bA (us := [iV x43.Kind, iV x43.N, .string x43.S]) 0 rfl ao rfl hx43 ca (fun _ _ _ h => by rw [show _ = _ from h]; rfl)) ?_
  refine gD (aJ f4 rfl) ?_
  rintro _ _ ⟨B44, rfl, rfl⟩
  refine gO (ar (us := [iV x43.Kind, iV x43.N, .string x43.S]) (cs' := [iV x43.Kind, iV x43.N, .string x43.S]) 0 rfl rfl rfl rfl bh rfl rfl rfl) ?_
  rintro _ _ rfl
  refine run ?_
  refine aS (fun s L => ∃ p46 p47 p48, iD N x28 a0 p14 y21 p30 p31 p46 p47 p48 = some (je, sr28) ∧ s = [(2, pV B4 0), (4, pV B5 0), (5, .slice none 0 0), (6, pV B12 0), (9, pV B24 0), (10, pV B25 0), (12, .slice A29 n29 c29), (13, pV B44 0)] ∧ L = [av A29 n29 c29 x28.2, av A1 n1 c1 a0.Slots, av A2 n2 c2 a0.More, ag B4 32 [iV a0.Kind, iV a0.Shape, iV a0.Flags, iV a0.Age, .slice A1 n1 c1, .slice A2 n2 c2], ag B5 32 [iV 0, iV 0, iV 0, iV 0, .slice none 0 0, .slice none 0 0], aN bQ eT M11 p14, ag B12 107 [.map (some M11)], bD A22 n22 c22 y21.Slots, bD A30 n30 c30 p30, ag B24 32 [iV y21.Kind, iV y21.Shape, iV y21.Flags, iV y21.Age, .slice A22 n22 c22, .slice A30 n30 c30], bD A31 n31 c31 p31, ag B25 25 [.slice A31 n31 c31], ag B44 38 [iV p46, iV p47, .string p48]]) ?_ ?_
  ·refine run ?_
   obtain ⟨b49, hb49, h⟩ := aa h
   refine aX 6 68 b49 ?_ ?_
   ·clear h
    refine aY 62 rfl (fun g49 => ?_) (fun g49 => ?_)
    ·have h := ah g49 hb49
     refine run ?_
     refine cY (wq (a := x43.N) (z := false) 6 rfl qb rfl rfl Tryz.underlying107 (cB Tryz.underlying3) Ae) rfl (bd g49 rfl) rfl ?_
     refine run ?_
     obtain rfl := aq h
     exact ak sA (ad [0, 1, 2, 3, 4, 5, 6, 7, 8, 9, 10, 11, 12] 13 rfl rfl)
    have h := ai g49 hb49
    refine run ?_
    obtain rfl := aq h
    exact ak sA (ad [0, 1, 2, 3, 4, 5, 6, 7, 8, 9, 10, 11, 12] 13 rfl rfl)
   refine run ?_
   refine ay rfl (fun g50 => ?_) (fun g50 => ?_)
   ·replace h := ah g50 h
    refine cx ?_
    refine gE (cU rfl (Dm)) ?_
    refine gO (ar (us := [iV 0, iV 0, .string (⟨#[]⟩)]) (cs' := [iV 0, iV 0, .string (⟨#[]⟩)]) 0 rfl rfl rfl rfl bh rfl rfl rfl) ?_
    rintro _ _ rfl
    refine bC ([ag B44 38 [iV 0, iV 0, .string (⟨#[]⟩)], av A29 n29 c29 x28.2, av A1 n1 c1 a0.Slots, av A2 n2 c2 a0.More, ag B4 32 [iV a0.Kind, iV a0.Shape, iV a0.Flags, iV a0.Age, .slice A1 n1 c1, .slice A2 n2 c2], ag B5 32 [iV 0, iV 0, iV 0, iV 0, .slice none 0 0, .slice none 0 0], aN bQ eT M11 p14, ag B12 107 [.map (some M11)], bD A22 n22 c22 y21.Slots, bD A30 n30 c30 p30, ag B24 32 [iV y21.Kind, iV y21.Shape, iV y21.Flags, iV y21.Age, .slice A22 n22 c22, .slice A30 n30 c30], bD A31 n31 c31 p31, ag B25 25 [.slice A31 n31 c31]]) rfl ?_
    refine run ?_
    exact ⟨_, _, ⟨0, 0, ⟨#[]⟩, h, rfl, rfl⟩, sA, ad [1, 2, 3, 4, 5, 6, 7, 8, 9, 10, 11, 12, 0] 13 rfl rfl⟩
   replace h := ai g50 h
   refine run ?_
   exact ⟨_, _, ⟨x43.Kind, x43.N, x43.S, h, rfl, rfl⟩, sA, ad [1, 2, 3, 4, 5, 6, 7, 8, 9, 10, 11, 12, 0] 13 rfl rfl⟩
  rintro _ _ ⟨p46, p47, p48, h, rfl, rfl⟩
  obtain ⟨x51, hx51, h⟩ := aa h
  obtain ⟨lx51, ux51, hx51⟩ := au hx51
  obtain ⟨x52, hx52, h⟩ := aa h
  obtain ⟨lx52, ux52, hx52⟩ := au hx52
  obtain ⟨x53, hx53, h⟩ := aa h
  obtain ⟨lx53, ux53, hx53⟩ := au hx53
  refine dK (t := [(2, pV B4 0), (4, pV B5 0), (5, .slice none 0 0), (6, pV B12 0), (9, pV B24 0), (10, pV B25 0), (12, .slice A29 n29 c29), (13, pV B44 0)]) ?_ fU (ab _)
  refine d9 (by kernel_rfl) 13 [] [1, 12] [70, 71, 72, 73, 74, 75, 76, 77, 78, 79, 80, 81, 82] [[], [0], [], [2], [3], [], [5], [6], [], [], [9], [10], [4, 7, 8, 11]] [aV (pV B24 5),
aV (.slice A30 n30 c30),
aV (.slice A29 n29 c29),
aV (cA (.slice A29 n29 c29) ((0 : Int).toNat) 3 0),
aV (.agg #[iV x51.Kind, iV x51.N, .string x51.S]),
aV (.slice A29 n29 c29),
aV (cA (.slice A29 n29 c29) ((1 : Int).toNat) 3 0),
aV (.agg #[iV x52.Kind, iV x52.N, .string x52.S]),
aV (.agg #[iV p46, iV p47, .string p48]),
aV (.slice A29 n29 c29),
aV (cA (.slice A29 n29 c29) ((3 : Int).toNat) 3 0),
aV (.agg #[iV x53.Kind, iV x53.N, .string x53.S]),
aX3 (fun (A55 : Option Addr) (n55 c55 : Nat) => .slice A55 n55 c55) (fun A55 n55 c55 => [bD A55 n55 c55 ([x51, x52, (⟨p46, p47, p48⟩ : DValue), x53] : List DValue)])] [] (ab _) (fM) (by kernel_rfl) rfl rfl ?_ ?_ ?_
  ·exact fL
  ·refine ac rfl ?_ ?_
   ·refine eg (bm (R := aw) (vss := [[iV x51.Kind, iV x51.N, .string x51.S], [iV x52.Kind, iV x52.N, .string x52.S], [iV p46, iV p47, .string p48], [iV x53.Kind, iV x53.N, .string x53.S]]) (xs := [x51, x52, (⟨p46, p47, p48⟩ : DValue), x53]) rfl (FL _ _ _ _ _ _ _ _ _ _ _ _) rfl rfl (fun _ _ hr => .cons rfl (.cons rfl (.cons rfl (.cons rfl All2.nil))))) rfl ?_
    rintro _ _ ⟨A54, n54, c54, rfl, rfl⟩
    exact gX A54 n54 c54 (ab _)
   refine ac rfl ?_ ?_
   ·exact cc (bA (us := [iV x53.Kind, iV x53.N, .string x53.S]) 0 rfl ao rfl hx53 ca (fun _ _ _ h => by rw [show _ = _ from h]; rfl)) rfl (aA rfl (ab _))
   refine ac rfl ?_ ?_
   ·exact cc (aM 0 rfl ao rfl rfl Tryz.underlying25 bh lx53 ux53) rfl (aA rfl (ab _))
   refine ac rfl ?_ ?_
   ·exact aW (az rfl) rfl (aA rfl (ab _))
   refine ac rfl ?_ ?_
   ·exact cc (aC (us := [iV p46, iV p47, .string p48]) 12 rfl rfl ca rfl) rfl (aA rfl (ab _))
   refine ac rfl ?_ ?_
   ·exact cc (bA (us := [iV x52.Kind, iV x52.N, .string x52.S]) 0 rfl ao rfl hx52 ca (fun _ _ _ h => by rw [show _ = _ from h]; rfl)) rfl (aA rfl (ab _))
   refine ac rfl ?_ ?_
   ·exact cc (aM 0 rfl ao rfl rfl Tryz.underlying25 bh lx52 ux52) rfl (aA rfl (ab _))
   refine ac rfl ?_ ?_
   ·exact aW (az rfl) rfl (aA rfl (ab _))
   refine ac rfl ?_ ?_
   ·exact cc (bA (us := [iV x51.Kind, iV x51.N, .string x51.S]) 0 rfl ao rfl hx51 ca (fun _ _ _ h => by rw [show _ = _ from h]; rfl)) rfl (aA rfl (ab _))
   refine ac rfl ?_ ?_
   ·exact cc (aM 0 rfl ao rfl rfl Tryz.underlying25 bh lx51 ux51) rfl (aA rfl (ab _))
   refine ac rfl ?_ ?_
   ·exact aW (az rfl) rfl (aA rfl (ab _))
   refine ac rfl ?_ ?_
   ·exact cc (aO 9 rfl rfl fe rfl) rfl (aA rfl (ab _))
   refine ac rfl ?_ ?_
   ·exact aW (cr rfl gn) rfl (aA rfl (ab _))
   exact cO
  intro A55 n55 c55
  refine ip (t := [(71, .slice A30 n30 c30), (82, .slice A55 n55 c55), (2, pV B4 0), (4, pV B5 0), (5, .slice none 0 0), (6, pV B12 0), (9, pV B24 0), (10, pV B25 0), (12, .slice A29 n29 c29), (13, pV B44 0)]) (L' := [bD A55 n55 c55 ([x51, x52, (⟨p46, p47, p48⟩ : DValue), x53] : List DValue), av A29 n29 c29 x28.2, av A1 n1 c1 a0.Slots, av A2 n2 c2 a0.More, ag B4 32 [iV a0.Kind, iV a0.Shape, iV a0.Flags, iV a0.Age, .slice A1 n1 c1, .slice A2 n2 c2], ag B5 32 [iV 0, iV 0, iV 0, iV 0, .slice none 0 0, .slice none 0 0], aN bQ eT M11 p14, ag B12 107 [.map (some M11)], bD A22 n22 c22 y21.Slots, bD A30 n30 c30 p30, ag B24 32 [iV y21.Kind, iV y21.Shape, iV y21.Flags, iV y21.Age, .slice A22 n22 c22, .slice A30 n30 c30], bD A31 n31 c31 p31, ag B25 25 [.slice A31 n31 c31], ag B44 38 [iV p46, iV p47, .string p48]]) ?_ fU (ab _)
  obtain ⟨q56, h⟩ := ap h
  refine nG 13 rfl (by kernel_rfl) (bF 9 0 rfl rfl aH rfl rfl Tryz.underlying25 Bt rfl rfl q56) rfl rfl rfl ?_
  rintro _ _ ⟨A57, n57, c57, rfl, rfl⟩
  refine mY 14 rfl (by kernel_rfl) (cr rfl gn) rfl rfl rfl ?_
  refine jY 15 rfl (by kernel_rfl) (ar (us := [.slice A57 n57 c57]) (cs' := [iV y21.Kind, iV y21.Shape, iV y21.Flags, iV y21.Age, .slice A22 n22 c22, .slice A57 n57 c57]) 10 rfl rfl rfl rfl iL rfl rfl rfl) rfl rfl ?_
  rintro _ _ rfl
  refine fT (by kernel_rfl) ?_
  refine G9 ?_
  obtain ⟨rfl, rfl⟩ := Prod.mk.inj (Option.some.inj h)
  exact ux ((ad [2, 3, 4, 5, 6, 7, 8, 9, 10, 11, 12] 14 rfl rfl).trans (dF ((A57, n57, c57), (A31, n31, c31)) rfl))
 ·rintro ⟨⟨A30, n30, c30⟩, ⟨A31, n31, c31⟩⟩ h
  refine jZ ([av A1 n1 c1 a0.Slots, av A2 n2 c2 a0.More, ag B4 32 [iV a0.Kind, iV a0.Shape, iV a0.Flags, iV a0.Age, .slice A1 n1 c1, .slice A2 n2 c2], ag B5 32 [iV 0, iV 0, iV 0, iV 0, .slice none 0 0, .slice none 0 0], aN bQ eT M11 p14, ag B12 107 [.map (some M11)], bD A22 n22 c22 y21.Slots, bD A30 n30 c30 y32.2.1, ag B24 32 [iV y21.Kind, iV y21.Shape, iV y21.Flags, iV y21.Age, .slice A22 n22 c22, .slice A30 n30 c30], bD A31 n31 c31 y32.2.2, ag B25 25 [.slice A31 n31 c31]]) rfl ?_
  refine run ?_
  refine aB ?_
  refine dB (by kernel_rfl) ([av A1 n1 c1 a0.Slots, av A2 n2 c2 a0.More, ag B4 32 [iV a0.Kind, iV a0.Shape, iV a0.Flags, iV a0.Age, .slice A1 n1 c1, .slice A2 n2 c2], aN bQ eT M11 p14, ag B12 107 [.map (some M11)], bD A22 n22 c22 y21.Slots, bD A30 n30 c30 y32.2.1, ag B24 32 [iV y21.Kind, iV y21.Shape, iV y21.Flags, iV y21.Age, .slice A22 n22 c22, .slice A30 n30 c30], bD A31 n31 c31 y32.2.2, ag B25 25 [.slice A31 n31 c31]]) (ad [0, 1, 2, 4, 5, 6, 7, 8, 9, 10] 11 rfl rfl) ?_
  refine bv 0 rfl (by kernel_rfl) (aC (us := [iV y21.Kind, iV y21.Shape, iV y21.Flags, iV y21.Age, .slice A22 n22 c22, .slice A30 n30 c30]) 7 rfl rfl bu rfl) rfl rfl ?_
  refine bv 1 rfl (by kernel_rfl) (aO 9 rfl rfl fe rfl) rfl rfl ?_
  refine qq 2 rfl (by kernel_rfl) (ar (us := [iV y21.Kind, iV y21.Shape, iV y21.Flags, iV y21.Age, .slice A22 n22 c22, .slice A30 n30 c30]) (cs' := [iV y21.Kind, iV y21.Shape, iV y21.Flags, iV y21.Age, .slice A22 n22 c22, .slice A30 n30 c30]) 3 rfl rfl rfl rfl bz rfl rfl rfl) rfl rfl ?_
  rintro _ _ rfl
  refine ⟨[av A1 n1 c1 a0.Slots, av A2 n2 c2 a0.More, ag B4 32 [iV a0.Kind, iV a0.Shape, iV a0.Flags, iV a0.Age, .slice A1 n1 c1, .slice A2 n2 c2], aN bQ eT M11 p14, ag B12 107 [.map (some M11)], bD A22 n22 c22 y21.Slots, bD A30 n30 c30 y32.2.1, ag B24 32 [iV y21.Kind, iV y21.Shape, iV y21.Flags, iV y21.Age, .slice A22 n22 c22, .slice A30 n30 c30], bD A31 n31 c31 y32.2.2, ag B25 25 [.slice A31 n31 c31]], ad [0, 1, 2, 4, 5, 6, 7, 8, 9, 10] 11 rfl rfl, ab _, ?_⟩
  refine fF ([av A1 n1 c1 a0.Slots, av A2 n2 c2 a0.More, ag B4 32 [iV a0.Kind, iV a0.Shape, iV a0.Flags, iV a0.Age, .slice A1 n1 c1, .slice A2 n2 c2], ag B5 32 [iV y21.Kind, iV y21.Shape, iV y21.Flags, iV y21.Age, .slice A22 n22 c22, .slice A30 n30 c30], aN bQ eT M11 p14, ag B12 107 [.map (some M11)], bD A22 n22 c22 y21.Slots, bD A30 n30 c30 y32.2.1, ag B24 32 [iV y21.Kind, iV y21.Shape, iV y21.Flags, iV y21.Age, .slice A22 n22 c22, .slice A30 n30 c30], bD A31 n31 c31 y32.2.2, ag B25 25 [.slice A31 n31 c31]]) rfl ?_
  refine aI 3 rfl (by kernel_rfl) (bw rfl) rfl rfl ?_
  refine dA (by kernel_rfl) ?_
  refine run ?_
  obtain rfl := aq h
  exact eP (rs := [.cell 4 32, .tmp 5]) (vs := [.agg #[iV y21.Kind, iV y21.Shape, iV y21.Flags, iV y21.Age, .slice A22 n22 c22, .slice A30 n30 c30], .slice A31 n31 c31]) rfl (.cons (dn 3 rfl rfl bu) (.cons (ji rfl) .nil)) rfl (ad [6, 7, 9] 11 rfl rfl) ⟨_, _, _, _, _, _, _, _, _, rfl, rfl⟩
 ·rintro ⟨⟨A30, n30, c30⟩, ⟨A31, n31, c31⟩⟩ h
  exact aD h
 rintro i ⟨⟨A30, n30, c30⟩, ⟨A31, n31, c31⟩⟩ h
 exact aD h
theorem nA {r : (DCell × (List DValue))} : ∀ v post, ((fun (u : Value) (post : List Chunk) => ∃ A0 n0 c0 A1 n1 c1 A2 n2 c2, u = .tuple #[.agg #[iV r.1.Kind, iV r.1.Shape, iV r.1.Flags, iV r.1.Age, .slice A0 n0 c0, .slice A1 n1 c1], .slice A2 n2 c2] ∧ post = [bD A0 n0 c0 r.1.Slots, bD A1 n1 c1 r.1.More, bD A2 n2 c2 r.2])) v post → ∀ c ∈ post, cZ c := by
 rintro _ _ ⟨_, _, _, _, _, _, _, _, _, rfl, rfl⟩; exact mem_cons bS (mem_cons bS (mem_cons bS (ae)))
def qc (N : Nat) (p4 : (List DValue)) : Option (List DValue) :=
 some p4
def jd (N : Nat) (kb5 : (List DValue) → Int → Option (List DValue)) (a0 : (List DValue)) (p7 : Int) (a1 : (List (Int × Int))) (p6 : (List DValue)) (x10 : DValue) (p13 : Int) : Option (List DValue) :=
 bM (cD (p6.length + ([(⟨x10.Kind, p13, x10.S⟩ : DValue)] : List DValue).length)) (bM (in64 (p7 + 1)) (kb5 (p6 ++ ([(⟨x10.Kind, p13, x10.S⟩ : DValue)] : List DValue)) (p7 + 1)))
def major_moved_l5 (N : Nat) (a0 : (List DValue)) (a1 : (List (Int × Int))) : Nat → (List DValue) → Int → Option (List DValue)
 | 0, _, _ => none
 | m5 + 1, p6, p7 => bif decide (p7 < (a0.length : Int)) then ((aG a0 p7).bind fun x10 => (bif (lk a1 x10.N).isSome then ((bif decide (x10.Kind = 7) then (some true) else (some (decide (x10.Kind = 9)))).bind fun b15 => some b15) else (some false)).bind fun b14 => bif b14 then (jd N (major_moved_l5 N a0 a1 m5) a0 p7 a1 p6 x10 ((lk a1 x10.N).getD 0)) else (jd N (major_moved_l5 N a0 a1 m5) a0 p7 a1 p6 x10 x10.N)) else (qc N p6)
def fB (N : Nat) (a0 : (List DValue)) (a1 : (List (Int × Int))) : Option (List DValue) :=
 major_moved_l5 N a0 a1 N [] 0
theorem jN {N : Nat} {a0 : (List DValue)} {a1 : (List (Int × Int))} {r : (List DValue)} (h : fB N a0 a1 = some r) : Okc Tryz.prog 82 [.slice A1 n1 c1, .map (some M2)] ([av A1 n1 c1 a0, pG bQ iQ M2 a1]) (fun u post => ∃ A0 n0 c0, u = .slice A0 n0 c0 ∧ post = [bD A0 n0 c0 r]) := by
 refine bN Tryz.func82 rfl rfl ?_
 simp only [bc]
 refine run ?_
 refine aS (fun s L => ∃ p4 A4 n4 c4, qc N p4 = some r ∧ s = [(4, .slice none 0 0), (5, .slice A4 n4 c4)] ∧ L = [bD A4 n4 c4 p4]) ?_ ?_
 ·refine run ?_
  refine gR (aL 0 rfl ao rfl Tryz.underlying25) ?_
  refine run ?_
  refine bp (fun m s L => ∃ p6 p7 A6 n6 c6, major_moved_l5 N a0 a1 m p6 p7 = some r ∧ s = [(1, .map (some M2)), (4, .slice none 0 0), (5, .slice A6 n6 c6), (10, .slice A1 n1 c1), (11, iV (a0.length : Int)), (12, iV p7)] ∧ L = [pG bQ iQ M2 a1, bD A6 n6 c6 p6, av A1 n1 c1 a0]) N _ _ ⟨[], 0, none, 0, 0, h, rfl, rfl⟩ sA ((cH aw 38 _).trans (ad [2, 0, 1] 3 rfl rfl)) ?_
  rintro (_ | m5) _ _ ⟨p6, p7, A6, n6, c6, h, rfl, rfl⟩
  ·exact aD h
  rw [major_moved_l5.eq_2] at h
  refine run ?_
  refine aB ?_
  refine ay rfl (fun g9 => ?_) (fun g9 => ?_)
  ·replace h := ah g9 h
   refine run ?_
   refine aB ?_
   refine run ?_
   obtain ⟨x10, hx10, h⟩ := aa h
   obtain ⟨lx10, ux10, hx10⟩ := au hx10
   refine gR (aM 2 rfl ao rfl rfl Tryz.underlying25 bh lx10 ux10) ?_
   refine gR (bA (us := [iV x10.Kind, iV x10.N, .string x10.S]) 2 rfl ao rfl hx10 ca (fun _ _ _ h => by rw [show _ = _ from h]; rfl)) ?_
   refine gD (aJ f4 rfl) ?_
   rintro _ _ ⟨B11, rfl, rfl⟩
   refine gO (ar (us := [iV x10.Kind, iV x10.N, .string x10.S]) (cs' := [iV x10.Kind, iV x10.N, .string x10.S]) 0 rfl rfl rfl rfl bh rfl rfl rfl) ?_
   rintro _ _ rfl
   refine run ?_
   refine aS (fun s L => ∃ p13, jd N (major_moved_l5 N a0 a1 m5) a0 p7 a1 p6 x10 p13 = some r ∧ s = [(1, .map (some M2)), (4, .slice none 0 0), (5, .slice A6 n6 c6), (7, pV B11 0), (10, .slice A1 n1 c1), (11, iV (a0.length : Int)), (12, iV p7)] ∧ L = [pG bQ iQ M2 a1, bD A6 n6 c6 p6, av A1 n1 c1 a0, ag B11 38 [iV x10.Kind, iV p13, .string x10.S]]) ?_ ?_
   ·refine run ?_
    refine gR (kZ (a := x10.N) (z := 0) 1 rfl Cc rfl rfl Tryz.underlying88 (cB Tryz.underlying3) uy) ?_
    refine run ?_
    obtain ⟨b14, hb14, h⟩ := aa h
    refine aX 9 33 b14 ?_ ?_
    ·clear h
     refine aY 24 rfl (fun g14 => ?_) (fun g14 => ?_)
     ·have h := ah g14 hb14
      refine run ?_
      obtain ⟨b15, hb15, h⟩ := aa h
      refine aX 4 32 b15 ?_ ?_
      ·clear h
       refine aY 28 rfl (fun g15 => ?_) (fun g15 => ?_)
       ·have h := ah g15 hb15
        refine run ?_
        obtain rfl := aq h
        exact ak sA (ad [0, 1, 2, 3] 4 rfl rfl)
       have h := ai g15 hb15
       refine run ?_
       obtain rfl := aq h
       exact ak sA (ad [0, 1, 2, 3] 4 rfl rfl)
      refine run ?_
      obtain rfl := aq h
      exact ak sA (ad [0, 1, 2, 3] 4 rfl rfl)
     have h := ai g14 hb14
     refine run ?_
     obtain rfl := aq h
     exact ak sA (ad [0, 1, 2, 3] 4 rfl rfl)
    refine run ?_
    refine ay rfl (fun g16 => ?_) (fun g16 => ?_)
    ·replace h := ah g16 h
     refine run ?_
     refine gO (ar (us := [iV ((lk a1 x10.N).getD 0)]) (cs' := [iV x10.Kind, iV ((lk a1 x10.N).getD 0), .string x10.S]) 0 rfl rfl rfl rfl dD rfl rfl rfl) ?_
     rintro _ _ rfl
     refine run ?_
     exact ⟨_, _, ⟨(lk a1 x10.N).getD 0, h, rfl, rfl⟩, sA, ad [1, 2, 3, 0] 4 rfl rfl⟩
    replace h := ai g16 h
    refine run ?_
    exact ⟨_, _, ⟨x10.N, h, rfl, rfl⟩, sA, ad [1, 2, 3, 0] 4 rfl rfl⟩
   rintro _ _ ⟨p13, h, rfl, rfl⟩
   refine run ?_
   refine gR (aC (us := [iV x10.Kind, iV p13, .string x10.S]) 3 rfl rfl ca rfl) ?_
   refine gD (bm (R := aw) (vss := [[iV x10.Kind, iV p13, .string x10.S]]) (xs := [(⟨x10.Kind, p13, x10.S⟩ : DValue)]) rfl (mW _ _ _) rfl rfl (fun _ _ hr => .cons rfl All2.nil)) ?_
   rintro _ _ ⟨A17, n17, c17, rfl, rfl⟩
   obtain ⟨q18, h⟩ := ap h
   refine gD (bF 2 0 rfl rfl aH rfl rfl Tryz.underlying25 Bt rfl rfl q18) ?_
   rintro _ _ ⟨A19, n19, c19, rfl, rfl⟩
   refine bC ([bD A17 n17 c17 ([(⟨x10.Kind, p13, x10.S⟩ : DValue)] : List DValue), pG bQ iQ M2 a1, bD A19 n19 c19 (p6 ++ ([(⟨x10.Kind, p13, x10.S⟩ : DValue)] : List DValue)), av A1 n1 c1 a0, ag B11 38 [iV x10.Kind, iV p13, .string x10.S]]) rfl ?_
   refine run ?_
   obtain ⟨q20, h⟩ := ap h
   refine gE (aR rfl rfl q20.1 q20.2) ?_
   refine run ?_
   exact ⟨m5, _, _, Nat.lt_succ_self _, ⟨p6 ++ ([(⟨x10.Kind, p13, x10.S⟩ : DValue)] : List DValue), p7 + 1, A19, n19, c19, h, rfl, rfl⟩, sA, ad [1, 2, 3] 5 rfl rfl⟩
  replace h := ai g9 h
  refine run ?_
  exact ⟨_, _, ⟨p6, A6, n6, c6, h, rfl, rfl⟩, sA, ad [1] 3 rfl rfl⟩
 rintro _ _ ⟨p4, A4, n4, c4, h, rfl, rfl⟩
 refine run ?_
 obtain rfl := aq h
 exact aQ rfl rfl (ad [0] 1 rfl rfl) ⟨_, _, _, rfl, rfl⟩
theorem iB {r : (List DValue)} : ∀ v post, ((fun (u : Value) (post : List Chunk) => ∃ A0 n0 c0, u = .slice A0 n0 c0 ∧ post = [bD A0 n0 c0 r])) v post → ∀ c ∈ post, cZ c := by
 rintro _ _ ⟨_, _, _, rfl, rfl⟩; exact mem_cons bS (ae)
def d7 (N : Nat) (a1 : (List DValue)) (a0 : DMemory) (p28 : (List DCell)) (y13 : ((List Int))) (y22 : (Option Exit × (List (Int × Int)))) (p38 : (List DValue)) (p39 : Int) (p40 : Int) (p41 : Int) (p42 : Int) (p43 : (List DValue)) (p44 : (List DValue)) : Option (Option Exit × (List DCell) × (List DValue)) :=
 (fB N p43 y22.2).bind fun y56 => (fB N p44 y22.2).bind fun y59 => bM (cD (p28.length + ([(⟨p39, p40, p41, p42, y56, y59⟩ : DCell)] : List DCell).length)) (some (none, (p28 ++ ([(⟨p39, p40, p41, p42, y56, y59⟩ : DCell)] : List DCell), p38)))
def fj (N : Nat) (a1 : (List DValue)) (a0 : DMemory) (y13 : ((List Int))) (y22 : (Option Exit × (List (Int × Int)))) (x27 : Int × Int) : ((List DCell) × (List DValue)) → Option (Option Exit × ((List DCell) × (List DValue)))
 |(p28, p29) => (eb N a0 x27.2).bind fun y33 => bif decide (y33.Kind = 8) then ((ir N y33 y13).bind fun y46 => d7 N a1 a0 p28 y13 y22 p29 y46.Kind y46.Shape y46.Flags y46.Age y46.Slots y46.More) else (bif decide (y33.Kind = 10) then ((im N y33 y13).bind fun y50 => bM (cD (p29.length + y50.2.length)) (d7 N a1 a0 p28 y13 y22 (p29 ++ y50.2) y50.1.Kind y50.1.Shape y50.1.Flags y50.1.Age y50.1.Slots y50.1.More)) else (d7 N a1 a0 p28 y13 y22 p29 y33.Kind y33.Shape y33.Flags y33.Age y33.Slots y33.More))
def fk (N : Nat) (a1 : (List DValue)) (a0 : DMemory) (y13 : ((List Int))) (x20 : Int × Int) : ((List (Int × Int))) → Option (Option Exit × (List (Int × Int)))
 | p21 => bM (in64 (2 * x20.1)) (bM (in64 ((2 * x20.1) + 2)) (some (none, na p21 x20.2 ((2 * x20.1) + 2))))
def bL (N : Nat) (a0 : DMemory) (a1 : (List DValue)) : Option (DMemory × (List DValue) × (List DValue) × Int) :=
 (kN N a0 a1).bind fun y7 => bif !decide (y7 = 0) then (some ((⟨[], []⟩ : DMemory), [], [], y7)) else ((fb N a0 a1).bind fun y13 => (iZ N y13).bind fun y18 => (ex N y13 (cK (fun x st => fk N a1 a0 y13 x st)) (none, ([] : (List (Int × Int))))).bind fun y22 => oz y22.1 ((iZ N y13).bind fun y25 => (ex N y13 (cK (fun x st => fj N a1 a0 y13 y22 x st)) (none, ([], []))).bind fun y30 => oz y30.1 ((fB N a1 y22.2).bind fun y65 => (fB N y30.2.2 y22.2).bind fun y68 => some ((⟨[], y30.2.1⟩ : DMemory), y65, y68, 0)) none (fun _ => none)) none (fun _ => none))
set_option maxHeartbeats 4000000 in
theorem iC {N : Nat} {a0 : DMemory} {a1 : (List DValue)} {r : (DMemory × (List DValue) × (List DValue) × Int)} (h : bL N a0 a1 = some r) : Okc Tryz.prog 31 [.agg #[.slice A1 n1 c1, .slice A2 n2 c2], .slice A3 n3 c3] ([aF A1 n1 c1 a0.Young, aF A2 n2 c2 a0.Old, av A3 n3 c3 a1]) (fun u post => ∃ A0 n0 c0 A1 n1 c1 A2 n2 c2 A3 n3 c3, u = .tuple #[.agg #[.slice A0 n0 c0, .slice A1 n1 c1], .slice A2 n2 c2, .slice A3 n3 c3, iV r.2.2.2] ∧ post = [cz A0 n0 c0 r.1.Young, cz A1 n1 c1 r.1.Old, bD A2 n2 c2 r.2.1, bD A3 n3 c3 r.2.2.1]) := by
 refine bN Tryz.func31 rfl rfl ?_
 simp only [bc]
 refine run ?_
 refine gD (bo rfl rfl) ?_
 rintro _ _ ⟨B4, rfl, rfl⟩
 refine gD (aJ nI rfl) ?_
 rintro _ _ ⟨B5, rfl, rfl⟩
 refine run ?_
 refine gD (aJ Ey rfl) ?_
 rintro _ _ ⟨B6, rfl, rfl⟩
 refine run ?_
 refine aB ?_
 refine run ?_
 refine gR (aC (us := [.slice A1 n1 c1, .slice A2 n2 c2]) 2 rfl rfl cN rfl) ?_
 refine run ?_
 obtain ⟨y7, hy7, h⟩ := aa h
 refine gD (am (wS hy7) HK rfl (mem_cons (aj (i := 3) rfl rfl) (mem_cons (aj (i := 4) rfl rfl) (mem_cons (aj (i := 5) rfl rfl) ae))) uk) ?_
 rintro _ _ ⟨_, ⟨rfl, rfl⟩, rfl⟩
 refine run ?_
 refine ay rfl (fun g8 => ?_) (fun g8 => ?_)
 ·replace h := ah g8 h
  refine run ?_
  refine gE (cU rfl (Dn)) ?_
  refine run ?_
  refine gO (ar (us := [.slice none 0 0, .slice none 0 0]) (cs' := [.slice none 0 0, .slice none 0 0]) 1 rfl rfl rfl rfl lw rfl rfl rfl) ?_
  rintro _ _ rfl
  refine run ?_
  refine gO (ar (us := [.slice none 0 0]) (cs' := [.slice none 0 0]) 0 rfl rfl rfl rfl iL rfl rfl rfl) ?_
  rintro _ _ rfl
  refine run ?_
  obtain rfl := aq h
  exact eP (rs := [.cell 4 24, .tmp 5, .cell 6 25, .tmp 7]) (vs := [.agg #[.slice none 0 0, .slice none 0 0], .slice none 0 0, .slice none 0 0, iV y7]) rfl (.cons (dn 1 rfl rfl cN) (.cons (ji rfl) (.cons (kF 0 rfl rfl fe) (.cons (ji rfl) .nil)))) rfl ((cH bO 32 _).trans ((cH bO 32 _).trans ((cH aw 38 _).trans ((cH aw 38 _).trans (ad [3, 2, 1, 0] 10 rfl rfl))))) ⟨_, _, _, _, _, _, _, _, _, _, _, _, rfl, rfl⟩
 replace h := ai g8 h
 refine run ?_
 refine gR (aC (us := [.slice A1 n1 c1, .slice A2 n2 c2]) 2 rfl rfl cN rfl) ?_
 refine run ?_
 obtain ⟨y13, hy13, h⟩ := aa h
 refine gD (am (ru hy13) FH rfl (mem_cons (aj (i := 3) rfl rfl) (mem_cons (aj (i := 4) rfl rfl) (mem_cons (aj (i := 5) rfl rfl) ae))) pc) ?_
 rintro _ _ ⟨_, ⟨A14, n14, c14, rfl, rfl⟩, rfl⟩
 refine gD (aJ vP rfl) ?_
 rintro _ _ ⟨B15, rfl, rfl⟩
 refine gO (ar (us := [.slice A14 n14 c14]) (cs' := [.slice A14 n14 c14]) 0 rfl rfl rfl rfl iK rfl rfl rfl) ?_
 rintro _ _ rfl
 refine bC ([ag B15 35 [.slice A14 n14 c14], br A14 n14 c14 y13, ag B6 25 [.slice none 0 0], ag B5 24 [.slice none 0 0, .slice none 0 0], ag B4 24 [.slice A1 n1 c1, .slice A2 n2 c2], aF A1 n1 c1 a0.Young, aF A2 n2 c2 a0.Old, av A3 n3 c3 a1]) rfl ?_
 refine run ?_
 refine gD (kq (ek := bQ) (ev := iQ)) ?_
 rintro _ _ ⟨M16, rfl, rfl⟩
 refine gD (aJ Hq rfl) ?_
 rintro _ _ ⟨B17, rfl, rfl⟩
 refine gO (ar (us := [.map (some M16)]) (cs' := [.map (some M16)]) 0 rfl rfl rfl rfl Hs rfl rfl rfl) ?_
 rintro _ _ rfl
 refine run ?_
 refine aB ?_
 refine run ?_
 obtain ⟨y18, hy18, h⟩ := aa h
 refine gD (am (mC hy18) Cs rfl (mem_cons (aK (i := 3) rfl) ae) ks) ?_
 rintro _ _ ⟨_, ⟨B19, rfl, rfl⟩, rfl⟩
 refine nH ?_
 refine lN ?_
 refine dK ?_ cw (fO 0 rfl)
 refine dK ?_ cw (bV 4 rfl)
 refine qW ([bU B19 35 [.slice A14 n14 c14], ag B17 88 [.map (some M16)], aN bQ iQ M16 ([] : (List (Int × Int))), ag B15 35 [.slice A14 n14 c14], cm A14 n14 c14 y13, ag B6 25 [.slice none 0 0], ag B5 24 [.slice none 0 0, .slice none 0 0], ag B4 24 [.slice A1 n1 c1, .slice A2 n2 c2], aF A1 n1 c1 a0.Young, aF A2 n2 c2 a0.Old, av A3 n3 c3 a1]) rfl ?_
 obtain ⟨y22, hy22, h⟩ := aa h
 refine mZ (en := (fun x => [iV x.1, iV x.2])) (fun x st => fk N a1 a0 y13 x st) (fun (st : (List (Int × Int))) (mz : Unit) => [av A3 n3 c3 a1, aF A1 n1 c1 a0.Young, aF A2 n2 c2 a0.Old, ag B4 24 [.slice A1 n1 c1, .slice A2 n2 c2], ag B5 24 [.slice none 0 0, .slice none 0 0], ag B6 25 [.slice none 0 0], cm A14 n14 c14 y13, ag B15 35 [.slice A14 n14 c14], aN bQ iQ M16 st, ag B17 88 [.map (some M16)]]) [bU B19 35 [.slice A14 n14 c14], cm A14 n14 c14 y13] (([] : (List (Int × Int)))) (()) rfl rfl zT rfl (fun _ => rfl) (fun l G hY => (jL hy22 hY).mono fun _ _ hh => hh.2) (be [0, 4] [] [10, 8, 9, 7, 6, 5, 4, 3, 2, 1] 11 rfl) h ?_ ?_ ?_ ?_
 ·rintro l x20 p21 je sr20 _ h
  replace h : fk N a1 a0 y13 x20 p21 = some (je, sr20) := h
  simp only [sd, List.zip_cons_cons, List.zip_nil_left, List.zip_nil_right, List.reverse_cons, List.reverse_nil, List.nil_append, List.cons_append]
  refine run ?_
  refine gR (aO 9 rfl rfl rG rfl) ?_
  refine run ?_
  obtain ⟨q23, h⟩ := ap h
  refine gE (qh rfl rfl q23.1 q23.2) ?_
  obtain ⟨q24, h⟩ := ap h
  refine gE (aR rfl rfl q24.1 q24.2) ?_
  refine gO (fd (a := x20.2) (b := (2 * x20.1) + 2) 8 rfl rfl rfl rfl Tryz.underlying88 (cB Tryz.underlying3)) ?_
  rintro _ _ rfl
  refine run ?_
  obtain ⟨rfl, rfl⟩ := Prod.mk.inj (Option.some.inj h)
  exact ux ((ad [0, 1, 2, 3, 4, 5, 6, 7, 8, 9] 10 rfl rfl).trans (dF () rfl))
 ·rintro _ h
  refine jZ ([av A3 n3 c3 a1, aF A1 n1 c1 a0.Young, aF A2 n2 c2 a0.Old, ag B4 24 [.slice A1 n1 c1, .slice A2 n2 c2], ag B5 24 [.slice none 0 0, .slice none 0 0], ag B6 25 [.slice none 0 0], cm A14 n14 c14 y13, ag B15 35 [.slice A14 n14 c14], aN bQ iQ M16 y22.2, ag B17 88 [.map (some M16)]]) rfl ?_
  refine run ?_
  refine aB ?_
  refine run ?_
  obtain ⟨y25, hy25, h⟩ := aa h
  refine gD (am (mC hy25) Cs rfl (mem_cons (aj (i := 6) rfl rfl) ae) ks) ?_
  rintro _ _ ⟨_, ⟨B26, rfl, rfl⟩, rfl⟩
  refine nH ?_
  refine lN ?_
  refine dK ?_ cw (fO 0 rfl)
  obtain ⟨y30, hy30, h⟩ := aa h
  refine mZ (en := (fun x => [iV x.1, iV x.2])) (fun x st => fj N a1 a0 y13 y22 x st) (fun (st : (List DCell) × (List DValue)) (mz : ((Option Addr × Nat × Nat) × (Option Addr × Nat × Nat))) => [av A3 n3 c3 a1, aF A1 n1 c1 a0.Young, aF A2 n2 c2 a0.Old, ag B4 24 [.slice A1 n1 c1, .slice A2 n2 c2], dz bO 32 (.slice mz.1.1 mz.1.2.1 mz.1.2.2) st.1, ag B5 24 [.slice none 0 0, .slice mz.1.1 mz.1.2.1 mz.1.2.2], dz aw 38 (.slice mz.2.1 mz.2.2.1 mz.2.2.2) st.2, ag B6 25 [.slice mz.2.1 mz.2.2.1 mz.2.2.2], cm A14 n14 c14 y13, ag B15 35 [.slice A14 n14 c14], aN bQ iQ M16 y22.2, ag B17 88 [.map (some M16)]]) [bU B26 35 [.slice A14 n14 c14], cm A14 n14 c14 y13] (([], [])) (((none, 0, 0), (none, 0, 0))) rfl rfl zT rfl (fun _ => rfl) (fun l G hY => (jL hy30 hY).mono fun _ _ hh => hh.2) ((cH bO 32 _).trans ((cH aw 38 _).trans (be [2, 9] [] [3, 4, 5, 6, 1, 7, 0, 8, 9, 10, 11, 12] 13 rfl))) h ?_ ?_ ?_ ?_
  ·rintro l x27 ⟨p28, p29⟩ je sr27 ⟨⟨A28, n28, c28⟩, ⟨A29, n29, c29⟩⟩ h
   replace h : fj N a1 a0 y13 y22 x27 (p28, p29) = some (je, sr27) := h
   simp only [sd, List.zip_cons_cons, List.zip_nil_left, List.zip_nil_right, List.reverse_cons, List.reverse_nil, List.nil_append, List.cons_append]
   refine run ?_
   refine gR (aC (us := [.slice A1 n1 c1, .slice A2 n2 c2]) 3 rfl rfl cN rfl) ?_
   refine run ?_
   obtain ⟨y33, hy33, h⟩ := aa h
   refine gD (am (kY hy33) xq rfl (mem_cons (aj (i := 1) rfl rfl) (mem_cons (aj (i := 2) rfl rfl) ae)) iU) ?_
   rintro _ _ ⟨_, ⟨A34, n34, c34, A35, n35, c35, rfl, rfl⟩, rfl⟩
   refine gD (aJ dR rfl) ?_
   rintro _ _ ⟨B36, rfl, rfl⟩
   refine gO (ar (us := [iV y33.Kind, iV y33.Shape, iV y33.Flags, iV y33.Age, .slice A34 n34 c34, .slice A35 n35 c35]) (cs' := [iV y33.Kind, iV y33.Shape, iV y33.Flags, iV y33.Age, .slice A34 n34 c34, .slice A35 n35 c35]) 0 rfl rfl rfl rfl bz rfl rfl rfl) ?_
   rintro _ _ rfl
   refine bC ([ag B36 32 [iV y33.Kind, iV y33.Shape, iV y33.Flags, iV y33.Age, .slice A34 n34 c34, .slice A35 n35 c35], bD A34 n34 c34 y33.Slots, bD A35 n35 c35 y33.More, av A3 n3 c3 a1, aF A1 n1 c1 a0.Young, aF A2 n2 c2 a0.Old, ag B4 24 [.slice A1 n1 c1, .slice A2 n2 c2], cz A28 n28 c28 p28, ag B5 24 [.slice none 0 0, .slice A28 n28 c28], bD A29 n29 c29 p29, ag B6 25 [.slice A29 n29 c29], cm A14 n14 c14 y13, ag B15 35 [.slice A14 n14 c14], aN bQ iQ M16 y22.2, ag B17 88 [.map (some M16)]]) rfl ?_
   refine run ?_
   refine aS (fun s L => ∃ p38 p39 p40 p41 p42 p43 p44 A38 n38 c38 A43 n43 c43 A44 n44 c44, d7 N a1 a0 p28 y13 y22 p38 p39 p40 p41 p42 p43 p44 = some (je, sr27) ∧ s = [(1, .slice A3 n3 c3), (2, pV B4 0), (4, pV B5 0), (5, .slice none 0 0), (6, pV B6 0), (7, iV 0), (9, pV B15 0), (10, pV B17 0), (15, pV B36 0)] ∧ L = [av A3 n3 c3 a1, aF A1 n1 c1 a0.Young, aF A2 n2 c2 a0.Old, ag B4 24 [.slice A1 n1 c1, .slice A2 n2 c2], cz A28 n28 c28 p28, ag B5 24 [.slice none 0 0, .slice A28 n28 c28], bD A38 n38 c38 p38, ag B6 25 [.slice A38 n38 c38], cm A14 n14 c14 y13, ag B15 35 [.slice A14 n14 c14], aN bQ iQ M16 y22.2, ag B17 88 [.map (some M16)], bD A43 n43 c43 p43, bD A44 n44 c44 p44, ag B36 32 [iV p39, iV p40, iV p41, iV p42, .slice A43 n43 c43, .slice A44 n44 c44]]) ?_ ?_
   ·refine run ?_
    refine ay rfl (fun g45 => ?_) (fun g45 => ?_)
    ·replace h := ah g45 h
     refine cx ?_
     refine gR (aC (us := [iV y33.Kind, iV y33.Shape, iV y33.Flags, iV y33.Age, .slice A34 n34 c34, .slice A35 n35 c35]) 0 rfl rfl bu rfl) ?_
     refine gR (aO 12 rfl rfl dE rfl) ?_
     obtain ⟨y46, hy46, h⟩ := aa h
     refine gD (am (nJ hy46) Cr rfl (mem_cons (aK (i := 1) rfl) (mem_cons (aK (i := 2) rfl) (mem_cons (aj (i := 11) rfl rfl) ae))) ln) ?_
     rintro _ _ ⟨_, ⟨A47, n47, c47, A48, n48, c48, rfl, rfl⟩, rfl⟩
     refine gO (ar (us := [iV y46.Kind, iV y46.Shape, iV y46.Flags, iV y46.Age, .slice A47 n47 c47, .slice A48 n48 c48]) (cs' := [iV y46.Kind, iV y46.Shape, iV y46.Flags, iV y46.Age, .slice A47 n47 c47, .slice A48 n48 c48]) 2 rfl rfl rfl rfl bz rfl rfl rfl) ?_
     rintro _ _ rfl
     refine run ?_
     exact ⟨_, _, ⟨p29, y46.Kind, y46.Shape, y46.Flags, y46.Age, y46.Slots, y46.More, A29, n29, c29, A47, n47, c47, A48, n48, c48, h, rfl, rfl⟩, sA, ad [5, 6, 7, 8, 9, 10, 11, 12, 13, 14, 15, 16, 0, 1, 2] 17 rfl rfl⟩
    replace h := ai g45 h
    refine run ?_
    refine ay rfl (fun g49 => ?_) (fun g49 => ?_)
    ·replace h := ah g49 h
     refine run ?_
     refine gR (aC (us := [iV y33.Kind, iV y33.Shape, iV y33.Flags, iV y33.Age, .slice A34 n34 c34, .slice A35 n35 c35]) 0 rfl rfl bu rfl) ?_
     refine gR (aO 12 rfl rfl dE rfl) ?_
     obtain ⟨y50, hy50, h⟩ := aa h
     refine gD (am (ph hy50) FA rfl (mem_cons (aK (i := 1) rfl) (mem_cons (aK (i := 2) rfl) (mem_cons (aj (i := 11) rfl rfl) ae))) nA) ?_
     rintro _ _ ⟨_, ⟨A51, n51, c51, A52, n52, c52, A53, n53, c53, rfl, rfl⟩, rfl⟩
     refine run ?_
     refine gO (ar (us := [iV y50.1.Kind, iV y50.1.Shape, iV y50.1.Flags, iV y50.1.Age, .slice A51 n51 c51, .slice A52 n52 c52]) (cs' := [iV y50.1.Kind, iV y50.1.Shape, iV y50.1.Flags, iV y50.1.Age, .slice A51 n51 c51, .slice A52 n52 c52]) 3 rfl rfl rfl rfl bz rfl rfl rfl) ?_
     rintro _ _ rfl
     refine run ?_
     refine gR (aO 13 rfl rfl fe rfl) ?_
     refine run ?_
     obtain ⟨q54, h⟩ := ap h
     refine gD (bF 12 2 rfl rfl aH rfl rfl Tryz.underlying25 Bt rfl rfl q54) ?_
     rintro _ _ ⟨A55, n55, c55, rfl, rfl⟩
     refine bC ([bD A51 n51 c51 y50.1.Slots, bD A52 n52 c52 y50.1.More, bD A53 n53 c53 y50.2, ag B36 32 [iV y50.1.Kind, iV y50.1.Shape, iV y50.1.Flags, iV y50.1.Age, .slice A51 n51 c51, .slice A52 n52 c52], bD A34 n34 c34 y33.Slots, bD A35 n35 c35 y33.More, av A3 n3 c3 a1, aF A1 n1 c1 a0.Young, aF A2 n2 c2 a0.Old, ag B4 24 [.slice A1 n1 c1, .slice A2 n2 c2], cz A28 n28 c28 p28, ag B5 24 [.slice none 0 0, .slice A28 n28 c28], bD A55 n55 c55 (p29 ++ y50.2), ag B6 25 [.slice A29 n29 c29], cm A14 n14 c14 y13, ag B15 35 [.slice A14 n14 c14], aN bQ iQ M16 y22.2, ag B17 88 [.map (some M16)]]) rfl ?_
     refine gO (ar (us := [.slice A55 n55 c55]) (cs' := [.slice A55 n55 c55]) 13 rfl rfl rfl rfl iL rfl rfl rfl) ?_
     rintro _ _ rfl
     refine run ?_
     exact ⟨_, _, ⟨p29 ++ y50.2, y50.1.Kind, y50.1.Shape, y50.1.Flags, y50.1.Age, y50.1.Slots, y50.1.More, A55, n55, c55, A51, n51, c51, A52, n52, c52, h, rfl, rfl⟩, sA, ad [6, 7, 8, 9, 10, 11, 12, 13, 14, 15, 16, 17, 0, 1, 3] 18 rfl rfl⟩
    replace h := ai g49 h
    refine run ?_
    exact ⟨_, _, ⟨p29, y33.Kind, y33.Shape, y33.Flags, y33.Age, y33.Slots, y33.More, A29, n29, c29, A34, n34, c34, A35, n35, c35, h, rfl, rfl⟩, sA, ad [3, 4, 5, 6, 7, 8, 9, 10, 11, 12, 13, 14, 1, 2, 0] 15 rfl rfl⟩
   rintro _ _ ⟨p38, p39, p40, p41, p42, p43, p44, A38, n38, c38, A43, n43, c43, A44, n44, c44, h, rfl, rfl⟩
   refine aB ?_
   obtain ⟨y56, hy56, h⟩ := aa h
   obtain ⟨y59, hy59, h⟩ := aa h
   refine dK (t := [(1, .slice A3 n3 c3), (2, pV B4 0), (4, pV B5 0), (5, .slice none 0 0), (6, pV B6 0), (7, iV 0), (9, pV B15 0), (10, pV B17 0), (15, pV B36 0)]) ?_ fU (ab _)
   refine d9 (by kernel_rfl) 9 [] [3, 7, 8] [62, 63, 64, 65, 66, 67, 68, 69, 70] [[], [0], [], [1, 2], [], [4], [], [5, 6], []] [aV (pV B36 4),
aV (.slice A43 n43 c43),
aV (.map (some M16)),
aX3 (fun (A58 : Option Addr) (n58 c58 : Nat) => .slice A58 n58 c58) (fun A58 n58 c58 => [bD A58 n58 c58 y56]),
aV (pV B36 5),
aV (.slice A44 n44 c44),
aV (.map (some M16)),
aX3 (fun (A61 : Option Addr) (n61 c61 : Nat) => .slice A61 n61 c61) (fun A61 n61 c61 => [bD A61 n61 c61 y59]),
aV (pV B36 4)] [] (ab _) (fM) (by kernel_rfl) rfl rfl ?_ ?_ ?_
   ·exact fL
   ·refine ac rfl ?_ ?_
    ·exact aW (cr rfl oY) rfl (aA rfl (ab _))
    refine ac rfl ?_ ?_
    ·refine eg (am (jN hy59) zO rfl (mem_cons (aK (i := 13) rfl) (mem_cons (fN (i := 10) rfl) ae)) iB) rfl ?_
     rintro _ _ ⟨_, ⟨A60, n60, c60, rfl, rfl⟩, rfl⟩
     exact gX A60 n60 c60 (ab _)
    refine ac rfl ?_ ?_
    ·exact cc (aO 11 rfl rfl rG rfl) rfl (aA rfl (ab _))
    refine ac rfl ?_ ?_
    ·exact cc (aO 14 rfl rfl fe rfl) rfl (aA rfl (ab _))
    refine ac rfl ?_ ?_
    ·exact aW (cr rfl gn) rfl (aA rfl (ab _))
    refine ac rfl ?_ ?_
    ·refine eg (am (jN hy56) zO rfl (mem_cons (aK (i := 12) rfl) (mem_cons (fN (i := 10) rfl) ae)) iB) rfl ?_
     rintro _ _ ⟨_, ⟨A57, n57, c57, rfl, rfl⟩, rfl⟩
     exact gX A57 n57 c57 (ab _)
    refine ac rfl ?_ ?_
    ·exact cc (aO 11 rfl rfl rG rfl) rfl (aA rfl (ab _))
    refine ac rfl ?_ ?_
    ·exact cc (aO 14 rfl rfl fe rfl) rfl (aA rfl (ab _))
    refine ac rfl ?_ ?_
    ·exact aW (cr rfl oY) rfl (aA rfl (ab _))
    exact cO
   intro A58 n58 c58 A61 n61 c61
   refine ip (t := [(65, .slice A58 n58 c58), (69, .slice A61 n61 c61), (70, pV B36 4), (1, .slice A3 n3 c3), (2, pV B4 0), (4, pV B5 0), (5, .slice none 0 0), (6, pV B6 0), (7, iV 0), (9, pV B15 0), (10, pV B17 0), (15, pV B36 0)]) (L' := [bD A58 n58 c58 y56, bD A61 n61 c61 y59, av A3 n3 c3 a1, aF A1 n1 c1 a0.Young, aF A2 n2 c2 a0.Old, ag B4 24 [.slice A1 n1 c1, .slice A2 n2 c2], cz A28 n28 c28 p28, ag B5 24 [.slice none 0 0, .slice A28 n28 c28], bD A38 n38 c38 p38, ag B6 25 [.slice A38 n38 c38], cm A14 n14 c14 y13, ag B15 35 [.slice A14 n14 c14], aN bQ iQ M16 y22.2, ag B17 88 [.map (some M16)], bD A43 n43 c43 p43, bD A44 n44 c44 p44, ag B36 32 [iV p39, iV p40, iV p41, iV p42, .slice A43 n43 c43, .slice A44 n44 c44]]) ?_ fU (ab _)
   refine jY 9 rfl (by kernel_rfl) (ar (us := [.slice A58 n58 c58]) (cs' := [iV p39, iV p40, iV p41, iV p42, .slice A58 n58 c58, .slice A44 n44 c44]) 16 rfl rfl rfl rfl iL rfl rfl rfl) rfl rfl ?_
   rintro _ _ rfl
   refine mY 10 rfl (by kernel_rfl) (cr rfl gn) rfl rfl rfl ?_
   refine jY 11 rfl (by kernel_rfl) (ar (us := [.slice A61 n61 c61]) (cs' := [iV p39, iV p40, iV p41, iV p42, .slice A58 n58 c58, .slice A61 n61 c61]) 16 rfl rfl rfl rfl iL rfl rfl rfl) rfl rfl ?_
   rintro _ _ rfl
   refine mX ([bD A58 n58 c58 y56, bD A61 n61 c61 y59, av A3 n3 c3 a1, aF A1 n1 c1 a0.Young, aF A2 n2 c2 a0.Old, ag B4 24 [.slice A1 n1 c1, .slice A2 n2 c2], cz A28 n28 c28 p28, ag B5 24 [.slice none 0 0, .slice A28 n28 c28], bD A38 n38 c38 p38, ag B6 25 [.slice A38 n38 c38], cm A14 n14 c14 y13, ag B15 35 [.slice A14 n14 c14], aN bQ iQ M16 y22.2, ag B17 88 [.map (some M16)], bD A43 n43 c43 p43, bD A44 n44 c44 p44, ag B36 32 [iV p39, iV p40, iV p41, iV p42, .slice A58 n58 c58, .slice A61 n61 c61]]) rfl ?_
   refine fT (by kernel_rfl) ?_
   refine run ?_
   refine gR (aC (us := [iV p39, iV p40, iV p41, iV p42, .slice A58 n58 c58, .slice A61 n61 c61]) 16 rfl rfl bu rfl) ?_
   refine pv (bV 0 rfl) ?_
   refine pv (bV 1 rfl) ?_
   refine gD (bm (R := bO) (vss := [[iV p39, iV p40, iV p41, iV p42, .slice A58 n58 c58, .slice A61 n61 c61]]) (xs := [(⟨p39, p40, p41, p42, y56, y59⟩ : DCell)]) rfl (tL _ _ _ _ _ _ _ _ _ _) rfl rfl (fun _ _ hr => .cons (⟨_, _, _, _, _, _, rfl, hr 0 _ rfl rfl, hr 1 _ rfl rfl⟩) All2.nil)) ?_
   rintro _ _ ⟨A62, n62, c62, rfl, rfl⟩
   obtain ⟨q63, h⟩ := ap h
   refine gD (bF 7 0 rfl rfl aH rfl rfl Tryz.underlying22 Af rfl rfl q63) ?_
   rintro _ _ ⟨A64, n64, c64, rfl, rfl⟩
   refine bC ([cz A62 n62 c62 ([(⟨p39, p40, p41, p42, y56, y59⟩ : DCell)] : List DCell), av A58 n58 c58 y56, av A61 n61 c61 y59, av A3 n3 c3 a1, aF A1 n1 c1 a0.Young, aF A2 n2 c2 a0.Old, ag B4 24 [.slice A1 n1 c1, .slice A2 n2 c2], cz A64 n64 c64 (p28 ++ ([(⟨p39, p40, p41, p42, y56, y59⟩ : DCell)] : List DCell)), ag B5 24 [.slice none 0 0, .slice A28 n28 c28], bD A38 n38 c38 p38, ag B6 25 [.slice A38 n38 c38], cm A14 n14 c14 y13, ag B15 35 [.slice A14 n14 c14], aN bQ iQ M16 y22.2, ag B17 88 [.map (some M16)], bD A43 n43 c43 p43, bD A44 n44 c44 p44, ag B36 32 [iV p39, iV p40, iV p41, iV p42, .slice A58 n58 c58, .slice A61 n61 c61]]) rfl ?_
   refine run ?_
   refine gO (ar (us := [.slice A64 n64 c64]) (cs' := [.slice none 0 0, .slice A64 n64 c64]) 8 rfl rfl rfl rfl nL rfl rfl rfl) ?_
   rintro _ _ rfl
   refine run ?_
   obtain ⟨rfl, rfl⟩ := Prod.mk.inj (Option.some.inj h)
   exact ux ((ad [3, 4, 5, 6, 7, 8, 9, 10, 11, 12, 13, 14] 18 rfl rfl).trans (dF ((A64, n64, c64), (A38, n38, c38)) rfl))
  ·rintro ⟨⟨A28, n28, c28⟩, ⟨A29, n29, c29⟩⟩ h
   refine jZ ([av A3 n3 c3 a1, aF A1 n1 c1 a0.Young, aF A2 n2 c2 a0.Old, ag B4 24 [.slice A1 n1 c1, .slice A2 n2 c2], cz A28 n28 c28 y30.2.1, ag B5 24 [.slice none 0 0, .slice A28 n28 c28], bD A29 n29 c29 y30.2.2, ag B6 25 [.slice A29 n29 c29], cm A14 n14 c14 y13, ag B15 35 [.slice A14 n14 c14], aN bQ iQ M16 y22.2, ag B17 88 [.map (some M16)]]) rfl ?_
   refine run ?_
   refine aB ?_
   obtain ⟨y65, hy65, h⟩ := aa h
   obtain ⟨y68, hy68, h⟩ := aa h
   refine dK (t := [(1, .slice A3 n3 c3), (4, pV B5 0), (5, .slice none 0 0), (6, pV B6 0), (7, iV 0), (10, pV B17 0)]) ?_ fU (ab _)
   refine d9 (by kernel_rfl) 7 [] [0, 3, 6] [78, 79, 80, 81, 82, 83, 84] [[], [], [], [1, 2], [], [], [4, 5]] [aV (.agg #[.slice none 0 0, .slice A28 n28 c28]),
aV (.slice A3 n3 c3),
aV (.map (some M16)),
aX3 (fun (A67 : Option Addr) (n67 c67 : Nat) => .slice A67 n67 c67) (fun A67 n67 c67 => [bD A67 n67 c67 y65]),
aV (.slice A29 n29 c29),
aV (.map (some M16)),
aX3 (fun (A70 : Option Addr) (n70 c70 : Nat) => .slice A70 n70 c70) (fun A70 n70 c70 => [bD A70 n70 c70 y68])] [] (ab _) (fM) (by kernel_rfl) rfl rfl ?_ ?_ ?_
   ·exact fL
   ·refine ac rfl ?_ ?_
    ·refine eg (am (jN hy68) zO rfl (mem_cons (aK (i := 6) rfl) (mem_cons (fN (i := 10) rfl) ae)) iB) rfl ?_
     rintro _ _ ⟨_, ⟨A69, n69, c69, rfl, rfl⟩, rfl⟩
     exact gX A69 n69 c69 (ab _)
    refine ac rfl ?_ ?_
    ·exact cc (aO 11 rfl rfl rG rfl) rfl (aA rfl (ab _))
    refine ac rfl ?_ ?_
    ·exact cc (aO 7 rfl rfl fe rfl) rfl (aA rfl (ab _))
    refine ac rfl ?_ ?_
    ·refine eg (am (jN hy65) zO rfl (mem_cons (aj (i := 0) rfl rfl) (mem_cons (fN (i := 10) rfl) ae)) iB) rfl ?_
     rintro _ _ ⟨_, ⟨A66, n66, c66, rfl, rfl⟩, rfl⟩
     exact gX A66 n66 c66 (ab _)
    refine ac rfl ?_ ?_
    ·exact cc (aO 11 rfl rfl rG rfl) rfl (aA rfl (ab _))
    refine ac rfl ?_ ?_
    ·exact aW (az rfl) rfl (aA rfl (ab _))
    refine ac rfl ?_ ?_
    ·exact cc (aC (us := [.slice none 0 0, .slice A28 n28 c28]) 5 rfl rfl cN rfl) rfl (aA rfl (ab _))
    exact cO
   intro A67 n67 c67 A70 n70 c70
   refine ip (t := [(78, .agg #[.slice none 0 0, .slice A28 n28 c28]), (81, .slice A67 n67 c67), (84, .slice A70 n70 c70), (1, .slice A3 n3 c3), (4, pV B5 0), (5, .slice none 0 0), (6, pV B6 0), (7, iV 0), (10, pV B17 0)]) (L' := [bD A67 n67 c67 y65, bD A70 n70 c70 y68, av A3 n3 c3 a1, aF A1 n1 c1 a0.Young, aF A2 n2 c2 a0.Old, ag B4 24 [.slice A1 n1 c1, .slice A2 n2 c2], cz A28 n28 c28 y30.2.1, ag B5 24 [.slice none 0 0, .slice A28 n28 c28], bD A29 n29 c29 y30.2.2, ag B6 25 [.slice A29 n29 c29], cm A14 n14 c14 y13, ag B15 35 [.slice A14 n14 c14], aN bQ iQ M16 y22.2, ag B17 88 [.map (some M16)]]) ?_ fU (ab _)
   refine jY 7 rfl (by kernel_rfl) (ar (us := [.slice none 0 0, .slice A28 n28 c28]) (cs' := [.slice none 0 0, .slice A28 n28 c28]) 7 rfl rfl rfl rfl lw rfl rfl rfl) rfl rfl ?_
   rintro _ _ rfl
   refine mY 8 rfl (by kernel_rfl) (bw rfl) rfl rfl rfl ?_
   refine jY 9 rfl (by kernel_rfl) (ar (us := [.slice A70 n70 c70]) (cs' := [.slice A70 n70 c70]) 9 rfl rfl rfl rfl iL rfl rfl rfl) rfl rfl ?_
   rintro _ _ rfl
   refine mX ([bD A67 n67 c67 y65, bD A70 n70 c70 y68, av A3 n3 c3 a1, aF A1 n1 c1 a0.Young, aF A2 n2 c2 a0.Old, ag B4 24 [.slice A1 n1 c1, .slice A2 n2 c2], cz A28 n28 c28 y30.2.1, ag B5 24 [.slice none 0 0, .slice A28 n28 c28], bD A29 n29 c29 y30.2.2, ag B6 25 [.slice A70 n70 c70], cm A14 n14 c14 y13, ag B15 35 [.slice A14 n14 c14], aN bQ iQ M16 y22.2, ag B17 88 [.map (some M16)]]) rfl ?_
   refine mY 10 rfl (by kernel_rfl) (bw rfl) rfl rfl rfl ?_
   refine fT (by kernel_rfl) ?_
   refine run ?_
   obtain rfl := aq h
   exact eP (rs := [.cell 4 24, .tmp 5, .cell 6 25, .tmp 7]) (vs := [.agg #[.slice none 0 0, .slice A28 n28 c28], .slice A67 n67 c67, .slice A70 n70 c70, iV 0]) rfl (.cons (dn 7 rfl rfl cN) (.cons (ji rfl) (.cons (kF 9 rfl rfl fe) (.cons (ji rfl) .nil)))) rfl ((cH bO 32 _).trans (ad [0, 7, 1, 2] 15 rfl rfl)) ⟨_, _, _, _, _, _, _, _, _, _, _, _, rfl, rfl⟩
  ·rintro ⟨⟨A28, n28, c28⟩, ⟨A29, n29, c29⟩⟩ h
   exact aD h
  rintro i ⟨⟨A28, n28, c28⟩, ⟨A29, n29, c29⟩⟩ h
  exact aD h
 ·rintro _ h
  exact aD h
 rintro i _ h
 exact aD h
end Go.Proofs.YtmbaennilhdieaaGreat
namespace Go.Proofs.YtmbaennilhdieaaGreat
variable {A1 A2 A3 : Option Addr} {B1 M2 c1 c2 c3 n1 n2 n3 : Nat}
open Go.RowKit Asn
set_option maxRecDepth 20000
def md (N : Nat) : Option Bool :=
 (cg N 2).bind fun y1 => (dL N ([y1] : List DValue)).bind fun y3 => (dL N []).bind fun y6 => (dL N []).bind fun y11 => (dL N []).bind fun y15 => (cg N 1).bind fun y21 => (ik N (⟨([y3, y6] : List DCell), ([y11, y15] : List DCell)⟩ : DMemory) ([y21] : List DValue)).bind fun y23 => (cg N 1).bind fun y26 => (bL N (⟨([y3, y6] : List DCell), ([y11, y15] : List DCell)⟩ : DMemory) ([y26] : List DValue)).bind fun y29 => (cg N 4).bind fun y57 => (cg N 6).bind fun y58 => (cg N 8).bind fun y59 => (dL N []).bind fun y61 => (dL N []).bind fun y65 => (dL N []).bind fun y69 => (cg N 2).bind fun y75 => (bL N (⟨[], ([(⟨10, 0, 0, 0, ([(⟨1, 0, ⟨#[]⟩⟩ : DValue)] : List DValue), ([y57, y58, y59, (⟨0, 0, ⟨#[]⟩⟩ : DValue), (⟨3, 7, ⟨#[]⟩⟩ : DValue)] : List DValue)⟩ : DCell), y61, y65, y69] : List DCell)⟩ : DMemory) ([y75] : List DValue)).bind fun y78 => (oO N y23.1 ([2, 1] : List Int)).bind fun y108 => (bif y108 then ((oO N y23.2 ([2, 4] : List Int)).bind fun y112 => some y112) else (some false)).bind fun b109 => ((bif b109 then (some (decide (y29.2.2.2 = 0))) else (some false)).bind fun b113 => ((bif b113 then (some (decide ((y29.1.Old.length : Int) = 2))) else (some false)).bind fun b114 => ((bif b114 then (some (decide ((y29.1.Young.length : Int) = 0))) else (some false)).bind fun b115 => ((bif b115 then ((aG y29.1.Old 1).bind fun x117 => some (decide ((x117.More.length : Int) = 1))) else (some false)).bind fun b116 => ((bif b116 then ((aG y29.1.Old 1).bind fun x123 => (aG x123.More 0).bind fun x128 => (cg N 2).bind fun y131 => some (decide (x128 = y131))) else (some false)).bind fun b122 => ((bif b122 then (some (decide ((y29.2.1.length : Int) = 1))) else (some false)).bind fun b132 => ((bif b132 then ((aG y29.2.1 0).bind fun x134 => (cg N 4).bind fun y135 => some (decide (x134 = y135))) else (some false)).bind fun b133 => ((bif b133 then (some (decide ((y29.2.2.1.length : Int) = 0))) else (some false)).bind fun b136 => ((bif b136 then (some (decide (y78.2.2.2 = 0))) else (some false)).bind fun b137 => ((bif b137 then (some (decide ((y78.1.Old.length : Int) = 3))) else (some false)).bind fun b138 => ((bif b138 then ((cg N 4).bind fun y140 => (cg N 6).bind fun y141 => (km N y78.2.2.1 ([y140, y141, (⟨3, 7, ⟨#[]⟩⟩ : DValue)] : List DValue)).bind fun y144 => some y144) else (some false)).bind fun b139 => (some b139))))))))))))
set_option maxHeartbeats 4000000 in
theorem uz {N : Nat} {r : Bool} (h : md N = some r) : Okc Tryz.prog 30 [] ([]) (fun u post => u = .bool r ∧ post = []) := by
 refine bN Tryz.func30 rfl rfl ?_
 simp only [bc]
 refine run ?_
 obtain ⟨y1, hy1, h⟩ := aa h
 refine gD (am (dg hy1) mV rfl (ae) cE) ?_
 rintro _ _ ⟨_, ⟨rfl, rfl⟩, rfl⟩
 refine gD (bm (R := aw) (vss := [[iV y1.Kind, iV y1.N, .string y1.S]]) (xs := [y1]) rfl (mW _ _ _) rfl rfl (fun _ _ hr => .cons rfl All2.nil)) ?_
 rintro _ _ ⟨A2, n2, c2, rfl, rfl⟩
 obtain ⟨y3, hy3, h⟩ := aa h
 refine pv (bV 0 rfl) ?_
 refine bC ([av A2 n2 c2 ([y1] : List DValue)]) rfl ?_
 refine gD (iW (eH hy3) sk rfl rfl rfl (be [0] [] [0] 1 rfl)) ?_
 rintro _ _ ⟨_, ⟨A4, n4, c4, A5, n5, c5, rfl, rfl⟩, rfl⟩
 refine bC ([av A4 n4 c4 y3.Slots, av A5 n5 c5 y3.More, av A2 n2 c2 ([y1] : List DValue)]) rfl ?_
 refine run ?_
 obtain ⟨y6, hy6, h⟩ := aa h
 refine pv (nB aw _) ?_
 refine gD (iW (eH hy6) sk rfl rfl rfl (be [0] [] [0, 1, 2, 3] 4 rfl)) ?_
 rintro _ _ ⟨_, ⟨A7, n7, c7, A8, n8, c8, rfl, rfl⟩, rfl⟩
 refine bC ([av A7 n7 c7 y6.Slots, av A8 n8 c8 y6.More, dq aw (.slice none 0 0) ([] : List DValue), av A4 n4 c4 y3.Slots, av A5 n5 c5 y3.More, av A2 n2 c2 ([y1] : List DValue)]) rfl ?_
 refine gD (bm (R := bO) (vss := [[iV y3.Kind, iV y3.Shape, iV y3.Flags, iV y3.Age, .slice A4 n4 c4, .slice A5 n5 c5], [iV y6.Kind, iV y6.Shape, iV y6.Flags, iV y6.Age, .slice A7 n7 c7, .slice A8 n8 c8]]) (xs := [y3, y6]) rfl (Bj _ _ _ _ _ _ _ _ _ _ _ _ _ _ _ _ _ _ _ _) rfl rfl (fun _ _ hr => .cons (⟨_, _, _, _, _, _, rfl, hr 3 _ rfl rfl, hr 4 _ rfl rfl⟩) (.cons (⟨_, _, _, _, _, _, rfl, hr 0 _ rfl rfl, hr 1 _ rfl rfl⟩) All2.nil))) ?_
 rintro _ _ ⟨A10, n10, c10, rfl, rfl⟩
 refine run ?_
 obtain ⟨y11, hy11, h⟩ := aa h
 refine pv (nB aw _) ?_
 refine gD (iW (eH hy11) sk rfl rfl rfl (be [0] [] [0, 1, 2, 3, 4, 5, 6, 7] 8 rfl)) ?_
 rintro _ _ ⟨_, ⟨A12, n12, c12, A13, n13, c13, rfl, rfl⟩, rfl⟩
 refine bC ([av A12 n12 c12 y11.Slots, av A13 n13 c13 y11.More, dq aw (.slice none 0 0) ([] : List DValue), cz A10 n10 c10 ([y3, y6] : List DCell), av A7 n7 c7 y6.Slots, av A8 n8 c8 y6.More, dq aw (.slice none 0 0) ([] : List DValue), av A4 n4 c4 y3.Slots, av A5 n5 c5 y3.More, av A2 n2 c2 ([y1] : List DValue)]) rfl ?_
 refine run ?_
 obtain ⟨y15, hy15, h⟩ := aa h
 refine pv (nB aw _) ?_
 refine gD (iW (eH hy15) sk rfl rfl rfl (be [0] [] [0, 1, 2, 3, 4, 5, 6, 7, 8, 9, 10] 11 rfl)) ?_
 rintro _ _ ⟨_, ⟨A16, n16, c16, A17, n17, c17, rfl, rfl⟩, rfl⟩
 refine bC ([av A16 n16 c16 y15.Slots, av A17 n17 c17 y15.More, dq aw (.slice none 0 0) ([] : List DValue), av A12 n12 c12 y11.Slots, av A13 n13 c13 y11.More, dq aw (.slice none 0 0) ([] : List DValue), cz A10 n10 c10 ([y3, y6] : List DCell), av A7 n7 c7 y6.Slots, av A8 n8 c8 y6.More, dq aw (.slice none 0 0) ([] : List DValue), av A4 n4 c4 y3.Slots, av A5 n5 c5 y3.More, av A2 n2 c2 ([y1] : List DValue)]) rfl ?_
 refine gD (bm (R := bO) (vss := [[iV y11.Kind, iV y11.Shape, iV y11.Flags, iV y11.Age, .slice A12 n12 c12, .slice A13 n13 c13], [iV y15.Kind, iV y15.Shape, iV y15.Flags, iV y15.Age, .slice A16 n16 c16, .slice A17 n17 c17]]) (xs := [y11, y15]) rfl (Bj _ _ _ _ _ _ _ _ _ _ _ _ _ _ _ _ _ _ _ _) rfl rfl (fun _ _ hr => .cons (⟨_, _, _, _, _, _, rfl, hr 3 _ rfl rfl, hr 4 _ rfl rfl⟩) (.cons (⟨_, _, _, _, _, _, rfl, hr 0 _ rfl rfl, hr 1 _ rfl rfl⟩) All2.nil))) ?_
 rintro _ _ ⟨A19, n19, c19, rfl, rfl⟩
 refine gE (cU rfl (xv _ _ _ _ _ _)) ?_
 refine gD (aJ nI rfl) ?_
 rintro _ _ ⟨B20, rfl, rfl⟩
 refine gO (ar (us := [.slice A10 n10 c10, .slice A19 n19 c19]) (cs' := [.slice A10 n10 c10, .slice A19 n19 c19]) 0 rfl rfl rfl rfl lw rfl rfl rfl) ?_
 rintro _ _ rfl
 refine bC ([ag B20 24 [.slice A10 n10 c10, .slice A19 n19 c19], cz A19 n19 c19 ([y11, y15] : List DCell), av A16 n16 c16 y15.Slots, av A17 n17 c17 y15.More, dq aw (.slice none 0 0) ([] : List DValue), av A12 n12 c12 y11.Slots, av A13 n13 c13 y11.More, dq aw (.slice none 0 0) ([] : List DValue), cz A10 n10 c10 ([y3, y6] : List DCell), av A7 n7 c7 y6.Slots, av A8 n8 c8 y6.More, dq aw (.slice none 0 0) ([] : List DValue), av A4 n4 c4 y3.Slots, av A5 n5 c5 y3.More, av A2 n2 c2 ([y1] : List DValue)]) rfl ?_
 refine run ?_
 refine aB ?_
 refine dB (by kernel_rfl) _ (ab _) ?_
 refine bv 0 rfl (by kernel_rfl) (aC (us := [.slice A10 n10 c10, .slice A19 n19 c19]) 0 rfl rfl cN rfl) rfl rfl ?_
 obtain ⟨y21, hy21, h⟩ := aa h
 refine gt 1 rfl (by kernel_rfl) (am (dg hy21) mV rfl (ae) cE) rfl rfl rfl ?_
 rintro _ _ ⟨_, ⟨rfl, rfl⟩, rfl⟩
 refine ⟨_, ab _, ab _, ?_⟩
 refine gt 2 rfl (by kernel_rfl) (bm (R := aw) (vss := [[iV y21.Kind, iV y21.N, .string y21.S]]) (xs := [y21]) rfl (mW _ _ _) rfl rfl (fun _ _ hr => .cons rfl All2.nil)) rfl rfl rfl ?_
 rintro _ _ ⟨A22, n22, c22, rfl, rfl⟩
 refine ⟨[ag B20 24 [.slice A10 n10 c10, .slice A19 n19 c19], cz A19 n19 c19 ([y11, y15] : List DCell), av A16 n16 c16 y15.Slots, av A17 n17 c17 y15.More, dq aw (.slice none 0 0) ([] : List DValue), av A12 n12 c12 y11.Slots, av A13 n13 c13 y11.More, dq aw (.slice none 0 0) ([] : List DValue), cz A10 n10 c10 ([y3, y6] : List DCell), av A7 n7 c7 y6.Slots, av A8 n8 c8 y6.More, dq aw (.slice none 0 0) ([] : List DValue), av A4 n4 c4 y3.Slots, av A5 n5 c5 y3.More, av A2 n2 c2 ([y1] : List DValue)], ad [1, 2, 3, 4, 5, 6, 7, 8, 9, 10, 11, 12, 13, 14, 15] 16 rfl rfl, ab _, ?_⟩
 obtain ⟨y23, hy23, h⟩ := aa h
 refine gt 3 rfl (by kernel_rfl) (am (vo hy23) HU rfl (mem_cons (aK (i := 9) rfl) (mem_cons (aK (i := 2) rfl) (mem_cons (aK (i := 0) rfl) ae))) tj) rfl rfl rfl ?_
 rintro _ _ ⟨_, ⟨A24, n24, c24, A25, n25, c25, rfl, rfl⟩, rfl⟩
 refine ⟨[ag B20 24 [.slice A10 n10 c10, .slice A19 n19 c19], cz A19 n19 c19 ([y11, y15] : List DCell), av A16 n16 c16 y15.Slots, av A17 n17 c17 y15.More, dq aw (.slice none 0 0) ([] : List DValue), av A12 n12 c12 y11.Slots, av A13 n13 c13 y11.More, dq aw (.slice none 0 0) ([] : List DValue), cz A10 n10 c10 ([y3, y6] : List DCell), av A7 n7 c7 y6.Slots, av A8 n8 c8 y6.More, dq aw (.slice none 0 0) ([] : List DValue), av A4 n4 c4 y3.Slots, av A5 n5 c5 y3.More, av A2 n2 c2 ([y1] : List DValue)], ad [3, 4, 5, 6, 7, 8, 9, 10, 11, 12, 13, 14, 15, 16, 17] 18 rfl rfl, ab _, ?_⟩
 refine aI 4 rfl (by kernel_rfl) (az rfl) rfl rfl ?_
 refine aI 5 rfl (by kernel_rfl) (bG rfl rfl) rfl rfl ?_
 refine aI 6 rfl (by kernel_rfl) (bG rfl rfl) rfl rfl ?_
 refine aI 7 rfl (by kernel_rfl) (bw rfl) rfl rfl ?_
 refine aI 8 rfl (by kernel_rfl) (bw rfl) rfl rfl ?_
 refine dA (by kernel_rfl) ?_
 refine lN ?_
 refine aB ?_
 refine dK ?_ cw (bV 4 rfl)
 refine qW ([br A24 n24 c24 y23.1, br A25 n25 c25 y23.2, bD A22 n22 c22 ([y21] : List DValue), ag B20 24 [.slice A10 n10 c10, .slice A19 n19 c19], aF A19 n19 c19 ([y11, y15] : List DCell), av A16 n16 c16 y15.Slots, av A17 n17 c17 y15.More, dq aw (.slice none 0 0) ([] : List DValue), av A12 n12 c12 y11.Slots, av A13 n13 c13 y11.More, dq aw (.slice none 0 0) ([] : List DValue), cz A10 n10 c10 ([y3, y6] : List DCell), av A7 n7 c7 y6.Slots, av A8 n8 c8 y6.More, dq aw (.slice none 0 0) ([] : List DValue), av A4 n4 c4 y3.Slots, av A5 n5 c5 y3.More, av A2 n2 c2 ([y1] : List DValue)]) rfl ?_
 refine dK ?_ cw (bV 11 rfl)
 refine qW ([br A24 n24 c24 y23.1, br A25 n25 c25 y23.2, bD A22 n22 c22 ([y21] : List DValue), ag B20 24 [.slice A10 n10 c10, .slice A19 n19 c19], aF A19 n19 c19 ([y11, y15] : List DCell), av A16 n16 c16 y15.Slots, av A17 n17 c17 y15.More, dq aw (.slice none 0 0) ([] : List DValue), av A12 n12 c12 y11.Slots, av A13 n13 c13 y11.More, dq aw (.slice none 0 0) ([] : List DValue), aF A10 n10 c10 ([y3, y6] : List DCell), av A7 n7 c7 y6.Slots, av A8 n8 c8 y6.More, dq aw (.slice none 0 0) ([] : List DValue), av A4 n4 c4 y3.Slots, av A5 n5 c5 y3.More, av A2 n2 c2 ([y1] : List DValue)]) rfl ?_
 obtain ⟨y26, hy26, h⟩ := aa h
 obtain ⟨y29, hy29, h⟩ := aa h
 refine dK (t := [(0, .bool false), (1, .func (.func 76) #[] #[]), (2, pV B20 0), (3, .slice A24 n24 c24), (4, .slice A25 n25 c25)]) ?_ fU (ab _)
 refine d9 (by kernel_rfl) 10 [6, 7, 8] [5, 6, 7, 8, 9] [35, 36, 37, 38, 34, 39, 40, 41, 42, 5] [[], [], [1], [0, 2], [3], [4], [4], [4], [4], []] [aV (.agg #[.slice A10 n10 c10, .slice A19 n19 c19]),
 aV (.agg #[iV y26.Kind, iV y26.N, .string y26.S]),
 aX3 (fun (A28 : Option Addr) (n28 c28 : Nat) => .slice A28 n28 c28) (fun A28 n28 c28 => [av A28 n28 c28 ([y26] : List DValue)]),
 aX12 (fun (A34 : Option Addr) (n34 c34 : Nat) (A35 : Option Addr) (n35 c35 : Nat) (A36 : Option Addr) (n36 c36 : Nat) (A37 : Option Addr) (n37 c37 : Nat) => .tuple #[.agg #[.slice A34 n34 c34, .slice A35 n35 c35], .slice A36 n36 c36, .slice A37 n37 c37, iV y29.2.2.2]) (fun A34 n34 c34 A35 n35 c35 A36 n36 c36 A37 n37 c37 => [aF A34 n34 c34 y29.1.Young, aF A35 n35 c35 y29.1.Old, av A36 n36 c36 y29.2.1, av A37 n37 c37 y29.2.2.1]),
 aX12 (fun (A38 : Option Addr) (n38 c38 : Nat) (A39 : Option Addr) (n39 c39 : Nat) (A40 : Option Addr) (n40 c40 : Nat) (A41 : Option Addr) (n41 c41 : Nat) => .tuple #[.agg #[.slice A38 n38 c38, .slice A39 n39 c39], .slice A40 n40 c40, .slice A41 n41 c41, iV y29.2.2.2]) (fun A38 n38 c38 A39 n39 c39 A40 n40 c40 A41 n41 c41 => [aF A38 n38 c38 y29.1.Young, aF A39 n39 c39 y29.1.Old, av A40 n40 c40 y29.2.1, av A41 n41 c41 y29.2.2.1]),
 aX6 (fun (A46 : Option Addr) (n46 c46 : Nat) (A47 : Option Addr) (n47 c47 : Nat) => .agg #[.slice A46 n46 c46, .slice A47 n47 c47]) (fun A46 n46 c46 A47 n47 c47 => [aF A46 n46 c46 y29.1.Young, aF A47 n47 c47 y29.1.Old]),
 aX3 (fun (A50 : Option Addr) (n50 c50 : Nat) => .slice A50 n50 c50) (fun A50 n50 c50 => [av A50 n50 c50 y29.2.1]),
 aX3 (fun (A52 : Option Addr) (n52 c52 : Nat) => .slice A52 n52 c52) (fun A52 n52 c52 => [av A52 n52 c52 y29.2.2.1]),
 aV (iV y29.2.2.2),
 aX1 (fun (B55 : Nat) => pV B55 0) (fun B55 => [ag B55 24 [.slice none 0 0, .slice none 0 0]])] [] (ab _) (iz rfl (iz rfl (iz rfl fM))) (by kernel_rfl) rfl rfl ?_ ?_ ?_
 ·refine iy rfl ?_ ?_
  ·intro A38 n38 c38 A39 n39 c39 A40 n40 c40 A41 n41 c41
   exact oE (bG rfl rfl) rfl (gX A40 n40 c40 ((cW 2 rfl rfl).trans (ab _)))
  refine iy rfl ?_ ?_
  ·intro A38 n38 c38 A39 n39 c39 A40 n40 c40 A41 n41 c41
   exact oE (bG rfl rfl) rfl (gX A41 n41 c41 ((cW 3 rfl rfl).trans (ab _)))
  refine iy rfl ?_ ?_
  ·intro A38 n38 c38 A39 n39 c39 A40 n40 c40 A41 n41 c41
   exact oE (bG rfl rfl) rfl (aA rfl (ab _))
  exact fL
 ·refine ac rfl ?_ ?_
  ·refine eg (aJ nI rfl) rfl ?_
   rintro _ _ ⟨B54, rfl, rfl⟩
   exact AZ B54 (ab _)
  refine ac rfl ?_ ?_
  ·intro A38 n38 c38 A39 n39 c39 A40 n40 c40 A41 n41 c41
   exact aW (bG rfl rfl) rfl (aA rfl (ab _))
  refine ac rfl ?_ ?_
  ·intro A38 n38 c38 A39 n39 c39 A40 n40 c40 A41 n41 c41
   exact aW (bG rfl rfl) rfl (gX A41 n41 c41 ((cW 3 rfl rfl).trans (ab _)))
  refine ac rfl ?_ ?_
  ·intro A38 n38 c38 A39 n39 c39 A40 n40 c40 A41 n41 c41
   exact aW (bG rfl rfl) rfl (gX A40 n40 c40 ((cW 2 rfl rfl).trans (ab _)))
  refine ac rfl ?_ ?_
  ·intro A38 n38 c38 A39 n39 c39 A40 n40 c40 A41 n41 c41
   exact aW (bG rfl rfl) rfl (xl A38 n38 c38 A39 n39 c39 ((cW 0 rfl rfl).trans ((cW 2 rfl rfl).trans (ad [1, 0, 2, 3, 4, 5, 6, 7, 8, 9, 10, 11, 12, 13, 14, 15, 16, 17, 18, 19, 20, 21, 22, 23] 24 rfl rfl))))
  refine ac rfl ?_ ?_
  ·intro A34 n34 c34 A35 n35 c35 A36 n36 c36 A37 n37 c37
   exact aW (az rfl) rfl (yP A34 n34 c34 A35 n35 c35 A36 n36 c36 A37 n37 c37 ((cW 0 rfl rfl).trans ((cW 2 rfl rfl).trans ((cW 4 rfl rfl).trans ((cW 6 rfl rfl).trans (ad [3, 2, 1, 0, 4, 5, 6, 7, 8, 9, 10, 11, 12, 13, 14, 15, 16, 17, 18, 19, 20, 21, 22, 23, 24, 25] 26 rfl rfl))))))
  refine ac rfl ?_ ?_
  ·intro A28 n28 c28
   refine eg (bH (iC hy29) zR rfl (be [12, 5, 0] [] [0, 1, 2, 3, 4, 5, 6, 7, 8, 9, 10, 11, 12, 13, 14, 15, 16, 17, 18] 19 rfl)) rfl ?_
   rintro _ _ ⟨_, ⟨A30, n30, c30, A31, n31, c31, A32, n32, c32, A33, n33, c33, rfl, rfl⟩, rfl⟩
   exact yP A30 n30 c30 A31 n31 c31 A32 n32 c32 A33 n33 c33 ((bV 0 rfl).trans ((bV 1 rfl).trans ((bV 2 rfl).trans ((bV 3 rfl).trans (ab _)))))
  refine ac rfl ?_ ?_
  ·refine eg (bm (R := aw) (vss := [[iV y26.Kind, iV y26.N, .string y26.S]]) (xs := [y26]) rfl (mW _ _ _) rfl rfl (fun _ _ hr => .cons rfl All2.nil)) rfl ?_
   rintro _ _ ⟨A27, n27, c27, rfl, rfl⟩
   exact gX A27 n27 c27 ((bV 0 rfl).trans (ab _))
  refine ac rfl ?_ ?_
  ·refine eg (am (dg hy26) mV rfl (ae) cE) rfl ?_
   rintro _ _ ⟨_, ⟨rfl, rfl⟩, rfl⟩
   exact aA rfl (ab _)
  refine ac rfl ?_ ?_
  ·exact cc (aC (us := [.slice A10 n10 c10, .slice A19 n19 c19]) 3 rfl rfl cN rfl) rfl (aA rfl (ab _))
  exact cO
 intro A46 n46 c46 A47 n47 c47 A50 n50 c50 A52 n52 c52 B55
 refine ip (t := [(39, .agg #[.slice A46 n46 c46, .slice A47 n47 c47]), (40, .slice A50 n50 c50), (41, .slice A52 n52 c52), (42, iV y29.2.2.2), (5, pV B55 0), (0, .bool false), (1, .func (.func 76) #[] #[]), (2, pV B20 0), (3, .slice A24 n24 c24), (4, .slice A25 n25 c25)]) (L' := [aF A46 n46 c46 y29.1.Young, aF A47 n47 c47 y29.1.Old, av A50 n50 c50 y29.2.1, av A52 n52 c52 y29.2.2.1, ag B55 24 [.slice none 0 0, .slice none 0 0], br A24 n24 c24 y23.1, br A25 n25 c25 y23.2, bD A22 n22 c22 ([y21] : List DValue), ag B20 24 [.slice A10 n10 c10, .slice A19 n19 c19], aF A19 n19 c19 ([y11, y15] : List DCell), av A16 n16 c16 y15.Slots, av A17 n17 c17 y15.More, dq aw (.slice none 0 0) ([] : List DValue), av A12 n12 c12 y11.Slots, av A13 n13 c13 y11.More, dq aw (.slice none 0 0) ([] : List DValue), aF A10 n10 c10 ([y3, y6] : List DCell), av A7 n7 c7 y6.Slots, av A8 n8 c8 y6.More, dq aw (.slice none 0 0) ([] : List DValue), av A4 n4 c4 y3.Slots, av A5 n5 c5 y3.More, av A2 n2 c2 ([y1] : List DValue)]) ?_ fU (ab _)
 refine jY 10 rfl (by kernel_rfl) (ar (us := [.slice A46 n46 c46, .slice A47 n47 c47]) (cs' := [.slice A46 n46 c46, .slice A47 n47 c47]) 4 rfl rfl rfl rfl lw rfl rfl rfl) rfl rfl ?_
 rintro _ _ rfl
 refine mX ([aF A46 n46 c46 y29.1.Young, aF A47 n47 c47 y29.1.Old, av A50 n50 c50 y29.2.1, av A52 n52 c52 y29.2.2.1, ag B55 24 [.slice A46 n46 c46, .slice A47 n47 c47], br A24 n24 c24 y23.1, br A25 n25 c25 y23.2, bD A22 n22 c22 ([y21] : List DValue), ag B20 24 [.slice A10 n10 c10, .slice A19 n19 c19], aF A19 n19 c19 ([y11, y15] : List DCell), av A16 n16 c16 y15.Slots, av A17 n17 c17 y15.More, dq aw (.slice none 0 0) ([] : List DValue), av A12 n12 c12 y11.Slots, av A13 n13 c13 y11.More, dq aw (.slice none 0 0) ([] : List DValue), aF A10 n10 c10 ([y3, y6] : List DCell), av A7 n7 c7 y6.Slots, av A8 n8 c8 y6.More, dq aw (.slice none 0 0) ([] : List DValue), av A4 n4 c4 y3.Slots, av A5 n5 c5 y3.More, av A2 n2 c2 ([y1] : List DValue)]) rfl ?_
 refine mY 11 rfl (by kernel_rfl) (bw rfl) rfl rfl rfl ?_
 refine mY 12 rfl (by kernel_rfl) (bw rfl) rfl rfl rfl ?_
 refine mY 13 rfl (by kernel_rfl) (bw rfl) rfl rfl rfl ?_
 refine fT (by kernel_rfl) ?_
 refine run ?_
 refine gE (cU rfl (FQ _)) ?_
 refine gD (bm (R := aw) (vss := [[iV 1, iV 0, .string (⟨#[]⟩)]]) (xs := [(⟨1, 0, ⟨#[]⟩⟩ : DValue)]) rfl (mW _ _ _) rfl rfl (fun _ _ hr => .cons rfl All2.nil)) ?_
 rintro _ _ ⟨A56, n56, c56, rfl, rfl⟩
 obtain ⟨y57, hy57, h⟩ := aa h
 refine gD (am (dg hy57) mV rfl (ae) cE) ?_
 rintro _ _ ⟨_, ⟨rfl, rfl⟩, rfl⟩
 obtain ⟨y58, hy58, h⟩ := aa h
 refine gD (am (dg hy58) mV rfl (ae) cE) ?_
 rintro _ _ ⟨_, ⟨rfl, rfl⟩, rfl⟩
 obtain ⟨y59, hy59, h⟩ := aa h
 refine gD (am (dg hy59) mV rfl (ae) cE) ?_
 rintro _ _ ⟨_, ⟨rfl, rfl⟩, rfl⟩
 refine gE (cU rfl (Dm)) ?_
 refine gE (cU rfl (sr _ _)) ?_
 refine gD (bm (R := aw) (vss := [[iV y57.Kind, iV y57.N, .string y57.S], [iV y58.Kind, iV y58.N, .string y58.S], [iV y59.Kind, iV y59.N, .string y59.S], [iV 0, iV 0, .string (⟨#[]⟩)], [iV 3, iV 7, .string (⟨#[]⟩)]]) (xs := [y57, y58, y59, (⟨0, 0, ⟨#[]⟩⟩ : DValue), (⟨3, 7, ⟨#[]⟩⟩ : DValue)]) rfl (FK _ _ _ _ _ _ _ _ _ _ _ _ _ _ _) rfl rfl (fun _ _ hr => .cons rfl (.cons rfl (.cons rfl (.cons rfl (.cons rfl All2.nil)))))) ?_
 rintro _ _ ⟨A60, n60, c60, rfl, rfl⟩
 refine gE (cU rfl (zX _ _ _ _ _ _ _)) ?_
 refine run ?_
 obtain ⟨y61, hy61, h⟩ := aa h
 refine pv (nB aw _) ?_
 refine gD (iW (eH hy61) sk rfl rfl rfl (be [0] [] [0, 1, 2, 3, 4, 5, 6, 7, 8, 9, 10, 11, 12, 13, 14, 15, 16, 17, 18, 19, 20, 21, 22, 23, 24, 25] 26 rfl)) ?_
 rintro _ _ ⟨_, ⟨A62, n62, c62, A63, n63, c63, rfl, rfl⟩, rfl⟩
 refine bC ([av A62 n62 c62 y61.Slots, av A63 n63 c63 y61.More, dq aw (.slice none 0 0) ([] : List DValue), bD A60 n60 c60 ([y57, y58, y59, (⟨0, 0, ⟨#[]⟩⟩ : DValue), (⟨3, 7, ⟨#[]⟩⟩ : DValue)] : List DValue), bD A56 n56 c56 ([(⟨1, 0, ⟨#[]⟩⟩ : DValue)] : List DValue), aF A46 n46 c46 y29.1.Young, aF A47 n47 c47 y29.1.Old, av A50 n50 c50 y29.2.1, av A52 n52 c52 y29.2.2.1, ag B55 24 [.slice A46 n46 c46, .slice A47 n47 c47], br A24 n24 c24 y23.1, br A25 n25 c25 y23.2, bD A22 n22 c22 ([y21] : List DValue), ag B20 24 [.slice A10 n10 c10, .slice A19 n19 c19], aF A19 n19 c19 ([y11, y15] : List DCell), av A16 n16 c16 y15.Slots, av A17 n17 c17 y15.More, dq aw (.slice none 0 0) ([] : List DValue), av A12 n12 c12 y11.Slots, av A13 n13 c13 y11.More, dq aw (.slice none 0 0) ([] : List DValue), aF A10 n10 c10 ([y3, y6] : List DCell), av A7 n7 c7 y6.Slots, av A8 n8 c8 y6.More, dq aw (.slice none 0 0) ([] : List DValue), av A4 n4 c4 y3.Slots, av A5 n5 c5 y3.More, av A2 n2 c2 ([y1] : List DValue)]) rfl ?_
 refine run ?_
 obtain ⟨y65, hy65, h⟩ := aa h
 refine pv (nB aw _) ?_
 refine gD (iW (eH hy65) sk rfl rfl rfl (be [0] [] [0, 1, 2, 3, 4, 5, 6, 7, 8, 9, 10, 11, 12, 13, 14, 15, 16, 17, 18, 19, 20, 21, 22, 23, 24, 25, 26, 27, 28] 29 rfl)) ?_
 rintro _ _ ⟨_, ⟨A66, n66, c66, A67, n67, c67, rfl, rfl⟩, rfl⟩
 refine bC ([av A66 n66 c66 y65.Slots, av A67 n67 c67 y65.More, dq aw (.slice none 0 0) ([] : List DValue), av A62 n62 c62 y61.Slots, av A63 n63 c63 y61.More, dq aw (.slice none 0 0) ([] : List DValue), bD A60 n60 c60 ([y57, y58, y59, (⟨0, 0, ⟨#[]⟩⟩ : DValue), (⟨3, 7, ⟨#[]⟩⟩ : DValue)] : List DValue), bD A56 n56 c56 ([(⟨1, 0, ⟨#[]⟩⟩ : DValue)] : List DValue), aF A46 n46 c46 y29.1.Young, aF A47 n47 c47 y29.1.Old, av A50 n50 c50 y29.2.1, av A52 n52 c52 y29.2.2.1, ag B55 24 [.slice A46 n46 c46, .slice A47 n47 c47], br A24 n24 c24 y23.1, br A25 n25 c25 y23.2, bD A22 n22 c22 ([y21] : List DValue), ag B20 24 [.slice A10 n10 c10, .slice A19 n19 c19], aF A19 n19 c19 ([y11, y15] : List DCell), av A16 n16 c16 y15.Slots, av A17 n17 c17 y15.More, dq aw (.slice none 0 0) ([] : List DValue), av A12 n12 c12 y11.Slots, av A13 n13 c13 y11.More, dq aw (.slice none 0 0) ([] : List DValue), aF A10 n10 c10 ([y3, y6] : List DCell), av A7 n7 c7 y6.Slots, av A8 n8 c8 y6.More, dq aw (.slice none 0 0) ([] : List DValue), av A4 n4 c4 y3.Slots, av A5 n5 c5 y3.More, av A2 n2 c2 ([y1] : List DValue)]) rfl ?_
 refine run ?_
 obtain ⟨y69, hy69, h⟩ := aa h
 refine pv (nB aw _) ?_
 refine gD (iW (eH hy69) sk rfl rfl rfl (be [0] [] [0, 1, 2, 3, 4, 5, 6, 7, 8, 9, 10, 11, 12, 13, 14, 15, 16, 17, 18, 19, 20, 21, 22, 23, 24, 25, 26, 27, 28, 29, 30, 31] 32 rfl)) ?_
 rintro _ _ ⟨_, ⟨A70, n70, c70, A71, n71, c71, rfl, rfl⟩, rfl⟩
 refine bC ([av A70 n70 c70 y69.Slots, av A71 n71 c71 y69.More, dq aw (.slice none 0 0) ([] : List DValue), av A66 n66 c66 y65.Slots, av A67 n67 c67 y65.More, dq aw (.slice none 0 0) ([] : List DValue), av A62 n62 c62 y61.Slots, av A63 n63 c63 y61.More, dq aw (.slice none 0 0) ([] : List DValue), bD A60 n60 c60 ([y57, y58, y59, (⟨0, 0, ⟨#[]⟩⟩ : DValue), (⟨3, 7, ⟨#[]⟩⟩ : DValue)] : List DValue), bD A56 n56 c56 ([(⟨1, 0, ⟨#[]⟩⟩ : DValue)] : List DValue), aF A46 n46 c46 y29.1.Young, aF A47 n47 c47 y29.1.Old, av A50 n50 c50 y29.2.1, av A52 n52 c52 y29.2.2.1, ag B55 24 [.slice A46 n46 c46, .slice A47 n47 c47], br A24 n24 c24 y23.1, br A25 n25 c25 y23.2, bD A22 n22 c22 ([y21] : List DValue), ag B20 24 [.slice A10 n10 c10, .slice A19 n19 c19], aF A19 n19 c19 ([y11, y15] : List DCell), av A16 n16 c16 y15.Slots, av A17 n17 c17 y15.More, dq aw (.slice none 0 0) ([] : List DValue), av A12 n12 c12 y11.Slots, av A13 n13 c13 y11.More, dq aw (.slice none 0 0) ([] : List DValue), aF A10 n10 c10 ([y3, y6] : List DCell), av A7 n7 c7 y6.Slots, av A8 n8 c8 y6.More, dq aw (.slice none 0 0) ([] : List DValue), av A4 n4 c4 y3.Slots, av A5 n5 c5 y3.More, av A2 n2 c2 ([y1] : List DValue)]) rfl ?_
 refine pv (bV 10 rfl) ?_
 refine bC ([av A70 n70 c70 y69.Slots, av A71 n71 c71 y69.More, dq aw (.slice none 0 0) ([] : List DValue), av A66 n66 c66 y65.Slots, av A67 n67 c67 y65.More, dq aw (.slice none 0 0) ([] : List DValue), av A62 n62 c62 y61.Slots, av A63 n63 c63 y61.More, dq aw (.slice none 0 0) ([] : List DValue), bD A60 n60 c60 ([y57, y58, y59, (⟨0, 0, ⟨#[]⟩⟩ : DValue), (⟨3, 7, ⟨#[]⟩⟩ : DValue)] : List DValue), av A56 n56 c56 ([(⟨1, 0, ⟨#[]⟩⟩ : DValue)] : List DValue), aF A46 n46 c46 y29.1.Young, aF A47 n47 c47 y29.1.Old, av A50 n50 c50 y29.2.1, av A52 n52 c52 y29.2.2.1, ag B55 24 [.slice A46 n46 c46, .slice A47 n47 c47], br A24 n24 c24 y23.1, br A25 n25 c25 y23.2, bD A22 n22 c22 ([y21] : List DValue), ag B20 24 [.slice A10 n10 c10, .slice A19 n19 c19], aF A19 n19 c19 ([y11, y15] : List DCell), av A16 n16 c16 y15.Slots, av A17 n17 c17 y15.More, dq aw (.slice none 0 0) ([] : List DValue), av A12 n12 c12 y11.Slots, av A13 n13 c13 y11.More, dq aw (.slice none 0 0) ([] : List DValue), aF A10 n10 c10 ([y3, y6] : List DCell), av A7 n7 c7 y6.Slots, av A8 n8 c8 y6.More, dq aw (.slice none 0 0) ([] : List DValue), av A4 n4 c4 y3.Slots, av A5 n5 c5 y3.More, av A2 n2 c2 ([y1] : List DValue)]) rfl ?_
 refine pv (bV 9 rfl) ?_
 refine bC ([av A70 n70 c70 y69.Slots, av A71 n71 c71 y69.More, dq aw (.slice none 0 0) ([] : List DValue), av A66 n66 c66 y65.Slots, av A67 n67 c67 y65.More, dq aw (.slice none 0 0) ([] : List DValue), av A62 n62 c62 y61.Slots, av A63 n63 c63 y61.More, dq aw (.slice none 0 0) ([] : List DValue), av A60 n60 c60 ([y57, y58, y59, (⟨0, 0, ⟨#[]⟩⟩ : DValue), (⟨3, 7, ⟨#[]⟩⟩ : DValue)] : List DValue), av A56 n56 c56 ([(⟨1, 0, ⟨#[]⟩⟩ : DValue)] : List DValue), aF A46 n46 c46 y29.1.Young, aF A47 n47 c47 y29.1.Old, av A50 n50 c50 y29.2.1, av A52 n52 c52 y29.2.2.1, ag B55 24 [.slice A46 n46 c46, .slice A47 n47 c47], br A24 n24 c24 y23.1, br A25 n25 c25 y23.2, bD A22 n22 c22 ([y21] : List DValue), ag B20 24 [.slice A10 n10 c10, .slice A19 n19 c19], aF A19 n19 c19 ([y11, y15] : List DCell), av A16 n16 c16 y15.Slots, av A17 n17 c17 y15.More, dq aw (.slice none 0 0) ([] : List DValue), av A12 n12 c12 y11.Slots, av A13 n13 c13 y11.More, dq aw (.slice none 0 0) ([] : List DValue), aF A10 n10 c10 ([y3, y6] : List DCell), av A7 n7 c7 y6.Slots, av A8 n8 c8 y6.More, dq aw (.slice none 0 0) ([] : List DValue), av A4 n4 c4 y3.Slots, av A5 n5 c5 y3.More, av A2 n2 c2 ([y1] : List DValue)]) rfl ?_
 refine gD (bm (R := bO) (vss := [[iV 10, iV 0, iV 0, iV 0, .slice A56 n56 c56, .slice A60 n60 c60], [iV y61.Kind, iV y61.Shape, iV y61.Flags, iV y61.Age, .slice A62 n62 c62, .slice A63 n63 c63], [iV y65.Kind, iV y65.Shape, iV y65.Flags, iV y65.Age, .slice A66 n66 c66, .slice A67 n67 c67], [iV y69.Kind, iV y69.Shape, iV y69.Flags, iV y69.Age, .slice A70 n70 c70, .slice A71 n71 c71]]) (xs := [(⟨10, 0, 0, 0, ([(⟨1, 0, ⟨#[]⟩⟩ : DValue)] : List DValue), ([y57, y58, y59, (⟨0, 0, ⟨#[]⟩⟩ : DValue), (⟨3, 7, ⟨#[]⟩⟩ : DValue)] : List DValue)⟩ : DCell), y61, y65, y69]) rfl (FO _ _ _ _ _ _ _ _ _ _ _ _ _ _ _ _ _ _ _ _ _ _ _ _ _ _ _ _ _ _ _ _ _ _ _ _ _ _ _ _) rfl rfl (fun _ _ hr => .cons (⟨_, _, _, _, _, _, rfl, hr 10 _ rfl rfl, hr 9 _ rfl rfl⟩) (.cons (⟨_, _, _, _, _, _, rfl, hr 6 _ rfl rfl, hr 7 _ rfl rfl⟩) (.cons (⟨_, _, _, _, _, _, rfl, hr 3 _ rfl rfl, hr 4 _ rfl rfl⟩) (.cons (⟨_, _, _, _, _, _, rfl, hr 0 _ rfl rfl, hr 1 _ rfl rfl⟩) All2.nil))))) ?_
 rintro _ _ ⟨A73, n73, c73, rfl, rfl⟩
 refine gE (cU rfl (FS _ _ _)) ?_
 refine gD (aJ nI rfl) ?_
 rintro _ _ ⟨B74, rfl, rfl⟩
 refine gO (ar (us := [.slice none 0 0, .slice A73 n73 c73]) (cs' := [.slice none 0 0, .slice A73 n73 c73]) 0 rfl rfl rfl rfl lw rfl rfl rfl) ?_
 rintro _ _ rfl
 refine bC ([ag B74 24 [.slice none 0 0, .slice A73 n73 c73], cz A73 n73 c73 ([(⟨10, 0, 0, 0, ([(⟨1, 0, ⟨#[]⟩⟩ : DValue)] : List DValue), ([y57, y58, y59, (⟨0, 0, ⟨#[]⟩⟩ : DValue), (⟨3, 7, ⟨#[]⟩⟩ : DValue)] : List DValue)⟩ : DCell), y61, y65, y69] : List DCell), av A70 n70 c70 y69.Slots, av A71 n71 c71 y69.More, dq aw (.slice none 0 0) ([] : List DValue), av A66 n66 c66 y65.Slots, av A67 n67 c67 y65.More, dq aw (.slice none 0 0) ([] : List DValue), av A62 n62 c62 y61.Slots, av A63 n63 c63 y61.More, dq aw (.slice none 0 0) ([] : List DValue), av A60 n60 c60 ([y57, y58, y59, (⟨0, 0, ⟨#[]⟩⟩ : DValue), (⟨3, 7, ⟨#[]⟩⟩ : DValue)] : List DValue), av A56 n56 c56 ([(⟨1, 0, ⟨#[]⟩⟩ : DValue)] : List DValue), aF A46 n46 c46 y29.1.Young, aF A47 n47 c47 y29.1.Old, av A50 n50 c50 y29.2.1, av A52 n52 c52 y29.2.2.1, ag B55 24 [.slice A46 n46 c46, .slice A47 n47 c47], br A24 n24 c24 y23.1, br A25 n25 c25 y23.2, bD A22 n22 c22 ([y21] : List DValue), ag B20 24 [.slice A10 n10 c10, .slice A19 n19 c19], aF A19 n19 c19 ([y11, y15] : List DCell), av A16 n16 c16 y15.Slots, av A17 n17 c17 y15.More, dq aw (.slice none 0 0) ([] : List DValue), av A12 n12 c12 y11.Slots, av A13 n13 c13 y11.More, dq aw (.slice none 0 0) ([] : List DValue), aF A10 n10 c10 ([y3, y6] : List DCell), av A7 n7 c7 y6.Slots, av A8 n8 c8 y6.More, dq aw (.slice none 0 0) ([] : List DValue), av A4 n4 c4 y3.Slots, av A5 n5 c5 y3.More, av A2 n2 c2 ([y1] : List DValue)]) rfl ?_
 refine run ?_
 refine aB ?_
 refine dK ?_ cw (bV 1 rfl)
 refine qW ([ag B74 24 [.slice none 0 0, .slice A73 n73 c73], aF A73 n73 c73 ([(⟨10, 0, 0, 0, ([(⟨1, 0, ⟨#[]⟩⟩ : DValue)] : List DValue), ([y57, y58, y59, (⟨0, 0, ⟨#[]⟩⟩ : DValue), (⟨3, 7, ⟨#[]⟩⟩ : DValue)] : List DValue)⟩ : DCell), y61, y65, y69] : List DCell), av A70 n70 c70 y69.Slots, av A71 n71 c71 y69.More, dq aw (.slice none 0 0) ([] : List DValue), av A66 n66 c66 y65.Slots, av A67 n67 c67 y65.More, dq aw (.slice none 0 0) ([] : List DValue), av A62 n62 c62 y61.Slots, av A63 n63 c63 y61.More, dq aw (.slice none 0 0) ([] : List DValue), av A60 n60 c60 ([y57, y58, y59, (⟨0, 0, ⟨#[]⟩⟩ : DValue), (⟨3, 7, ⟨#[]⟩⟩ : DValue)] : List DValue), av A56 n56 c56 ([(⟨1, 0, ⟨#[]⟩⟩ : DValue)] : List DValue), aF A46 n46 c46 y29.1.Young, aF A47 n47 c47 y29.1.Old, av A50 n50 c50 y29.2.1, av A52 n52 c52 y29.2.2.1, ag B55 24 [.slice A46 n46 c46, .slice A47 n47 c47], br A24 n24 c24 y23.1, br A25 n25 c25 y23.2, bD A22 n22 c22 ([y21] : List DValue), ag B20 24 [.slice A10 n10 c10, .slice A19 n19 c19], aF A19 n19 c19 ([y11, y15] : List DCell), av A16 n16 c16 y15.Slots, av A17 n17 c17 y15.More, dq aw (.slice none 0 0) ([] : List DValue), av A12 n12 c12 y11.Slots, av A13 n13 c13 y11.More, dq aw (.slice none 0 0) ([] : List DValue), aF A10 n10 c10 ([y3, y6] : List DCell), av A7 n7 c7 y6.Slots, av A8 n8 c8 y6.More, dq aw (.slice none 0 0) ([] : List DValue), av A4 n4 c4 y3.Slots, av A5 n5 c5 y3.More, av A2 n2 c2 ([y1] : List DValue)]) rfl ?_
 obtain ⟨y75, hy75, h⟩ := aa h
 obtain ⟨y78, hy78, h⟩ := aa h
 refine dK (t := [(0, .bool false), (3, .slice A24 n24 c24), (4, .slice A25 n25 c25), (5, pV B55 0), (6, .slice A50 n50 c50), (7, .slice A52 n52 c52), (8, iV y29.2.2.2), (9, pV B74 0)]) ?_ fU (ab _)
 refine d9 (by kernel_rfl) 10 [6, 7, 8] [5, 6, 7, 8, 9] [61, 62, 63, 64, 60, 65, 66, 67, 68, 10] [[], [], [1], [0, 2], [3], [4], [4], [4], [4], []] [aV (.agg #[.slice none 0 0, .slice A73 n73 c73]),
aV (.agg #[iV y75.Kind, iV y75.N, .string y75.S]),
aX3 (fun (A77 : Option Addr) (n77 c77 : Nat) => .slice A77 n77 c77) (fun A77 n77 c77 => [av A77 n77 c77 ([y75] : List DValue)]),
aX12 (fun (A84 : Option Addr) (n84 c84 : Nat) (A85 : Option Addr) (n85 c85 : Nat) (A86 : Option Addr) (n86 c86 : Nat) (A87 : Option Addr) (n87 c87 : Nat) => .tuple #[.agg #[.slice A84 n84 c84, .slice A85 n85 c85], .slice A86 n86 c86, .slice A87 n87 c87, iV y78.2.2.2]) (fun A84 n84 c84 A85 n85 c85 A86 n86 c86 A87 n87 c87 => [aF A84 n84 c84 y78.1.Young, aF A85 n85 c85 y78.1.Old, av A86 n86 c86 y78.2.1, av A87 n87 c87 y78.2.2.1]),
aX12 (fun (A88 : Option Addr) (n88 c88 : Nat) (A89 : Option Addr) (n89 c89 : Nat) (A90 : Option Addr) (n90 c90 : Nat) (A91 : Option Addr) (n91 c91 : Nat) => .tuple #[.agg #[.slice A88 n88 c88, .slice A89 n89 c89], .slice A90 n90 c90, .slice A91 n91 c91, iV y78.2.2.2]) (fun A88 n88 c88 A89 n89 c89 A90 n90 c90 A91 n91 c91 => [aF A88 n88 c88 y78.1.Young, aF A89 n89 c89 y78.1.Old, av A90 n90 c90 y78.2.1, av A91 n91 c91 y78.2.2.1]),
aX6 (fun (A96 : Option Addr) (n96 c96 : Nat) (A97 : Option Addr) (n97 c97 : Nat) => .agg #[.slice A96 n96 c96, .slice A97 n97 c97]) (fun A96 n96 c96 A97 n97 c97 => [aF A96 n96 c96 y78.1.Young, aF A97 n97 c97 y78.1.Old]),
aX3 (fun (A100 : Option Addr) (n100 c100 : Nat) => .slice A100 n100 c100) (fun A100 n100 c100 => [av A100 n100 c100 y78.2.1]),
aX3 (fun (A102 : Option Addr) (n102 c102 : Nat) => .slice A102 n102 c102) (fun A102 n102 c102 => [av A102 n102 c102 y78.2.2.1]),
aV (iV y78.2.2.2),
aX1 (fun (B105 : Nat) => pV B105 0) (fun B105 => [ag B105 24 [.slice none 0 0, .slice none 0 0]])] [] (ab _) (iz rfl (iz rfl (iz rfl fM))) (by kernel_rfl) rfl rfl ?_ ?_ ?_
 ·refine iy rfl ?_ ?_
  ·intro A88 n88 c88 A89 n89 c89 A90 n90 c90 A91 n91 c91
   exact oE (bG rfl rfl) rfl (gX A90 n90 c90 ((cW 2 rfl rfl).trans (ab _)))
  refine iy rfl ?_ ?_
  ·intro A88 n88 c88 A89 n89 c89 A90 n90 c90 A91 n91 c91
   exact oE (bG rfl rfl) rfl (gX A91 n91 c91 ((cW 3 rfl rfl).trans (ab _)))
  refine iy rfl ?_ ?_
  ·intro A88 n88 c88 A89 n89 c89 A90 n90 c90 A91 n91 c91
   exact oE (bG rfl rfl) rfl (aA rfl (ab _))
  exact fL
 ·refine ac rfl ?_ ?_
  ·refine eg (aJ nI rfl) rfl ?_
   rintro _ _ ⟨B104, rfl, rfl⟩
   exact AZ B104 (ab _)
  refine ac rfl ?_ ?_
  ·intro A88 n88 c88 A89 n89 c89 A90 n90 c90 A91 n91 c91
   exact aW (bG rfl rfl) rfl (aA rfl (ab _))
  refine ac rfl ?_ ?_
  ·intro A88 n88 c88 A89 n89 c89 A90 n90 c90 A91 n91 c91
   exact aW (bG rfl rfl) rfl (gX A91 n91 c91 ((cW 3 rfl rfl).trans (ab _)))
  refine ac rfl ?_ ?_
  ·intro A88 n88 c88 A89 n89 c89 A90 n90 c90 A91 n91 c91
   exact aW (bG rfl rfl) rfl (gX A90 n90 c90 ((cW 2 rfl rfl).trans (ab _)))
  refine ac rfl ?_ ?_
  ·intro A88 n88 c88 A89 n89 c89 A90 n90 c90 A91 n91 c91
   exact aW (bG rfl rfl) rfl (xl A88 n88 c88 A89 n89 c89 ((cW 0 rfl rfl).trans ((cW 2 rfl rfl).trans (ad [1, 0, 2, 3, 4, 5, 6, 7, 8, 9, 10, 11, 12, 13, 14, 15, 16, 17, 18, 19, 20, 21, 22, 23, 24, 25, 26, 27, 28, 29, 30, 31, 32, 33, 34, 35, 36, 37, 38, 39, 40, 41] 42 rfl rfl))))
  refine ac rfl ?_ ?_
  ·intro A84 n84 c84 A85 n85 c85 A86 n86 c86 A87 n87 c87
   exact aW (az rfl) rfl (yP A84 n84 c84 A85 n85 c85 A86 n86 c86 A87 n87 c87 ((cW 0 rfl rfl).trans ((cW 2 rfl rfl).trans ((cW 4 rfl rfl).trans ((cW 6 rfl rfl).trans (ad [3, 2, 1, 0, 4, 5, 6, 7, 8, 9, 10, 11, 12, 13, 14, 15, 16, 17, 18, 19, 20, 21, 22, 23, 24, 25, 26, 27, 28, 29, 30, 31, 32, 33, 34, 35, 36, 37, 38, 39, 40, 41, 42, 43] 44 rfl rfl))))))
  refine ac rfl ?_ ?_
  ·intro A77 n77 c77
   refine II (nB bO _) ?_
   refine eg (bH (iC hy78) zR rfl (be [0, 3, 1] [] [0, 1, 2, 3, 4, 5, 6, 7, 8, 9, 10, 11, 12, 13, 14, 15, 16, 17, 18, 19, 20, 21, 22, 23, 24, 25, 26, 27, 28, 29, 30, 31, 32, 33, 34, 35, 36, 37] 38 rfl)) rfl ?_
   rintro _ _ ⟨_, ⟨A79, n79, c79, A80, n80, c80, A81, n81, c81, A82, n82, c82, rfl, rfl⟩, rfl⟩
   exact yP A79 n79 c79 A80 n80 c80 A81 n81 c81 A82 n82 c82 ((bV 0 rfl).trans ((bV 1 rfl).trans ((bV 2 rfl).trans ((bV 3 rfl).trans (ad [0, 1, 2, 3, 5, 6, 7, 8, 9, 10, 11, 12, 13, 14, 15, 16, 17, 18, 19, 20, 21, 22, 23, 24, 25, 26, 27, 28, 29, 30, 31, 32, 33, 34, 35, 36, 37, 38, 39, 40, 41] 42 rfl rfl)))))
  refine ac rfl ?_ ?_
  ·refine eg (bm (R := aw) (vss := [[iV y75.Kind, iV y75.N, .string y75.S]]) (xs := [y75]) rfl (mW _ _ _) rfl rfl (fun _ _ hr => .cons rfl All2.nil)) rfl ?_
   rintro _ _ ⟨A76, n76, c76, rfl, rfl⟩
   exact gX A76 n76 c76 ((bV 0 rfl).trans (ab _))
  refine ac rfl ?_ ?_
  ·refine eg (am (dg hy75) mV rfl (ae) cE) rfl ?_
   rintro _ _ ⟨_, ⟨rfl, rfl⟩, rfl⟩
   exact aA rfl (ab _)
  refine ac rfl ?_ ?_
  ·exact cc (aC (us := [.slice none 0 0, .slice A73 n73 c73]) 0 rfl rfl cN rfl) rfl (aA rfl (ab _))
  exact cO
 intro A96 n96 c96 A97 n97 c97 A100 n100 c100 A102 n102 c102 B105
 refine ip (t := [(65, .agg #[.slice A96 n96 c96, .slice A97 n97 c97]), (66, .slice A100 n100 c100), (67, .slice A102 n102 c102), (68, iV y78.2.2.2), (10, pV B105 0), (0, .bool false), (3, .slice A24 n24 c24), (4, .slice A25 n25 c25), (5, pV B55 0), (6, .slice A50 n50 c50), (7, .slice A52 n52 c52), (8, iV y29.2.2.2), (9, pV B74 0)]) (L' := [aF A96 n96 c96 y78.1.Young, aF A97 n97 c97 y78.1.Old, av A100 n100 c100 y78.2.1, av A102 n102 c102 y78.2.2.1, ag B105 24 [.slice none 0 0, .slice none 0 0], ag B74 24 [.slice none 0 0, .slice A73 n73 c73], aF A73 n73 c73 ([(⟨10, 0, 0, 0, ([(⟨1, 0, ⟨#[]⟩⟩ : DValue)] : List DValue), ([y57, y58, y59, (⟨0, 0, ⟨#[]⟩⟩ : DValue), (⟨3, 7, ⟨#[]⟩⟩ : DValue)] : List DValue)⟩ : DCell), y61, y65, y69] : List DCell), av A70 n70 c70 y69.Slots, av A71 n71 c71 y69.More, dq aw (.slice none 0 0) ([] : List DValue), av A66 n66 c66 y65.Slots, av A67 n67 c67 y65.More, dq aw (.slice none 0 0) ([] : List DValue), av A62 n62 c62 y61.Slots, av A63 n63 c63 y61.More, dq aw (.slice none 0 0) ([] : List DValue), av A60 n60 c60 ([y57, y58, y59, (⟨0, 0, ⟨#[]⟩⟩ : DValue), (⟨3, 7, ⟨#[]⟩⟩ : DValue)] : List DValue), av A56 n56 c56 ([(⟨1, 0, ⟨#[]⟩⟩ : DValue)] : List DValue), aF A46 n46 c46 y29.1.Young, aF A47 n47 c47 y29.1.Old, av A50 n50 c50 y29.2.1, av A52 n52 c52 y29.2.2.1, ag B55 24 [.slice A46 n46 c46, .slice A47 n47 c47], br A24 n24 c24 y23.1, br A25 n25 c25 y23.2, bD A22 n22 c22 ([y21] : List DValue), ag B20 24 [.slice A10 n10 c10, .slice A19 n19 c19], aF A19 n19 c19 ([y11, y15] : List DCell), av A16 n16 c16 y15.Slots, av A17 n17 c17 y15.More, dq aw (.slice none 0 0) ([] : List DValue), av A12 n12 c12 y11.Slots, av A13 n13 c13 y11.More, dq aw (.slice none 0 0) ([] : List DValue), aF A10 n10 c10 ([y3, y6] : List DCell), av A7 n7 c7 y6.Slots, av A8 n8 c8 y6.More, dq aw (.slice none 0 0) ([] : List DValue), av A4 n4 c4 y3.Slots, av A5 n5 c5 y3.More, av A2 n2 c2 ([y1] : List DValue)]) ?_ fU (ab _)
 refine jY 10 rfl (by kernel_rfl) (ar (us := [.slice A96 n96 c96, .slice A97 n97 c97]) (cs' := [.slice A96 n96 c96, .slice A97 n97 c97]) 4 rfl rfl rfl rfl lw rfl rfl rfl) rfl rfl ?_
 rintro _ _ rfl
 refine mX ([aF A96 n96 c96 y78.1.Young, aF A97 n97 c97 y78.1.Old, av A100 n100 c100 y78.2.1, av A102 n102 c102 y78.2.2.1, ag B105 24 [.slice A96 n96 c96, .slice A97 n97 c97], ag B74 24 [.slice none 0 0, .slice A73 n73 c73], aF A73 n73 c73 ([(⟨10, 0, 0, 0, ([(⟨1, 0, ⟨#[]⟩⟩ : DValue)] : List DValue), ([y57, y58, y59, (⟨0, 0, ⟨#[]⟩⟩ : DValue), (⟨3, 7, ⟨#[]⟩⟩ : DValue)] : List DValue)⟩ : DCell), y61, y65, y69] : List DCell), av A70 n70 c70 y69.Slots, av A71 n71 c71 y69.More, dq aw (.slice none 0 0) ([] : List DValue), av A66 n66 c66 y65.Slots, av A67 n67 c67 y65.More, dq aw (.slice none 0 0) ([] : List DValue), av A62 n62 c62 y61.Slots, av A63 n63 c63 y61.More, dq aw (.slice none 0 0) ([] : List DValue), av A60 n60 c60 ([y57, y58, y59, (⟨0, 0, ⟨#[]⟩⟩ : DValue), (⟨3, 7, ⟨#[]⟩⟩ : DValue)] : List DValue), av A56 n56 c56 ([(⟨1, 0, ⟨#[]⟩⟩ : DValue)] : List DValue), aF A46 n46 c46 y29.1.Young, aF A47 n47 c47 y29.1.Old, av A50 n50 c50 y29.2.1, av A52 n52 c52 y29.2.2.1, ag B55 24 [.slice A46 n46 c46, .slice A47 n47 c47], br A24 n24 c24 y23.1, br A25 n25 c25 y23.2, bD A22 n22 c22 ([y21] : List DValue), ag B20 24 [.slice A10 n10 c10, .slice A19 n19 c19], aF A19 n19 c19 ([y11, y15] : List DCell), av A16 n16 c16 y15.Slots, av A17 n17 c17 y15.More, dq aw (.slice none 0 0) ([] : List DValue), av A12 n12 c12 y11.Slots, av A13 n13 c13 y11.More, dq aw (.slice none 0 0) ([] : List DValue), aF A10 n10 c10 ([y3, y6] : List DCell), av A7 n7 c7 y6.Slots, av A8 n8 c8 y6.More, dq aw (.slice none 0 0) ([] : List DValue), av A4 n4 c4 y3.Slots, av A5 n5 c5 y3.More, av A2 n2 c2 ([y1] : List DValue)]) rfl ?_
 refine mY 11 rfl (by kernel_rfl) (bw rfl) rfl rfl rfl ?_
 refine mY 12 rfl (by kernel_rfl) (bw rfl) rfl rfl rfl ?_
 refine mY 13 rfl (by kernel_rfl) (bw rfl) rfl rfl rfl ?_
 refine fT (by kernel_rfl) ?_
 refine lN ?_
 refine aB ?_
 obtain ⟨y108, hy108, h⟩ := aa h
 obtain ⟨b109, hb109, h⟩ := aa h
 obtain ⟨c109, hc109⟩ : ∃ c, y108 = c := ⟨_, rfl⟩
 obtain ⟨y112, hs109⟩ : ∃ (y112 : (Bool)), c109 = true → ((oO N y23.2 ([2, 4] : List Int)) = some y112 ∧ y112 = b109) := by
  cases c109
  ·exact ⟨default, fun e => by cases e⟩
  replace hb109 := ah hc109 hb109
  obtain ⟨y112, hy112, hb109⟩ := aa hb109
  exact ⟨y112, fun _ => ⟨hy112, Option.some.inj hb109⟩⟩
 have ho109 : c109 = false → b109 = false := fun e => (Option.some.inj (ai (hc109.trans e) hb109)).symm
 obtain ⟨b113, hb113, h⟩ := aa h
 obtain ⟨c113, hc113⟩ : ∃ c, b109 = c := ⟨_, rfl⟩
 obtain hs113 : c113 = true → ((decide (y29.2.2.2 = 0)) = b113) := by
  cases c113
  ·exact fun e => by cases e
  replace hb113 := ah hc113 hb113
  exact fun _ => Option.some.inj hb113
 have ho113 : c113 = false → b113 = false := fun e => (Option.some.inj (ai (hc113.trans e) hb113)).symm
 obtain ⟨b114, hb114, h⟩ := aa h
 obtain ⟨c114, hc114⟩ : ∃ c, b113 = c := ⟨_, rfl⟩
 obtain hs114 : c114 = true → ((decide ((y29.1.Old.length : Int) = 2)) = b114) := by
  cases c114
  ·exact fun e => by cases e
  replace hb114 := ah hc114 hb114
  exact fun _ => Option.some.inj hb114
 have ho114 : c114 = false → b114 = false := fun e => (Option.some.inj (ai (hc114.trans e) hb114)).symm
 obtain ⟨b115, hb115, h⟩ := aa h
 obtain ⟨c115, hc115⟩ : ∃ c, b114 = c := ⟨_, rfl⟩
 obtain hs115 : c115 = true → ((decide ((y29.1.Young.length : Int) = 0)) = b115) := by
  cases c115
  ·exact fun e => by cases e
  replace hb115 := ah hc115 hb115
  exact fun _ => Option.some.inj hb115
 have ho115 : c115 = false → b115 = false := fun e => (Option.some.inj (ai (hc115.trans e) hb115)).symm
 obtain ⟨b116, hb116, h⟩ := aa h
 obtain ⟨c116, hc116⟩ : ∃ c, b115 = c := ⟨_, rfl⟩
 obtain ⟨x117, hs116⟩ : ∃ (x117 : DCell), c116 = true → ((aG y29.1.Old 1) = some x117 ∧ (decide ((x117.More.length : Int) = 1)) = b116) := by
  cases c116
  ·exact ⟨default, fun e => by cases e⟩
  replace hb116 := ah hc116 hb116
  obtain ⟨x117, hx117, hb116⟩ := aa hb116
  exact ⟨x117, fun _ => ⟨hx117, Option.some.inj hb116⟩⟩
 have ho116 : c116 = false → b116 = false := fun e => (Option.some.inj (ai (hc116.trans e) hb116)).symm
 obtain ⟨b122, hb122, h⟩ := aa h
 obtain ⟨c122, hc122⟩ : ∃ c, b116 = c := ⟨_, rfl⟩
 obtain ⟨x123, x128, y131, hs122⟩ : ∃ (x123 : DCell) (x128 : DValue) (y131 : (DValue)), c122 = true → ((aG y29.1.Old 1) = some x123 ∧ (aG x123.More 0) = some x128 ∧ (cg N 2) = some y131 ∧ (decide (x128 = y131)) = b122) := by
  cases c122
  ·exact ⟨default, default, default, fun e => by cases e⟩
  replace hb122 := ah hc122 hb122
  obtain ⟨x123, hx123, hb122⟩ := aa hb122
  obtain ⟨x128, hx128, hb122⟩ := aa hb122
  obtain ⟨y131, hy131, hb122⟩ := aa hb122
  exact ⟨x123, x128, y131, fun _ => ⟨hx123, hx128, hy131, Option.some.inj hb122⟩⟩
 have ho122 : c122 = false → b122 = false := fun e => (Option.some.inj (ai (hc122.trans e) hb122)).symm
 obtain ⟨b132, hb132, h⟩ := aa h
 obtain ⟨c132, hc132⟩ : ∃ c, b122 = c := ⟨_, rfl⟩
 obtain hs132 : c132 = true → ((decide ((y29.2.1.length : Int) = 1)) = b132) := by
  cases c132
  ·exact fun e => by cases e
  replace hb132 := ah hc132 hb132
  exact fun _ => Option.some.inj hb132
 have ho132 : c132 = false → b132 = false := fun e => (Option.some.inj (ai (hc132.trans e) hb132)).symm
 obtain ⟨b133, hb133, h⟩ := aa h
 obtain ⟨c133, hc133⟩ : ∃ c, b132 = c := ⟨_, rfl⟩
 obtain ⟨x134, y135, hs133⟩ : ∃ (x134 : DValue) (y135 : (DValue)), c133 = true → ((aG y29.2.1 0) = some x134 ∧ (cg N 4) = some y135 ∧ (decide (x134 = y135)) = b133) := by
  cases c133
  ·exact ⟨default, default, fun e => by cases e⟩
  replace hb133 := ah hc133 hb133
  obtain ⟨x134, hx134, hb133⟩ := aa hb133
  obtain ⟨y135, hy135, hb133⟩ := aa hb133
  exact ⟨x134, y135, fun _ => ⟨hx134, hy135, Option.some.inj hb133⟩⟩
 have ho133 : c133 = false → b133 = false := fun e => (Option.some.inj (ai (hc133.trans e) hb133)).symm
 obtain ⟨b136, hb136, h⟩ := aa h
 obtain ⟨c136, hc136⟩ : ∃ c, b133 = c := ⟨_, rfl⟩
 obtain hs136 : c136 = true → ((decide ((y29.2.2.1.length : Int) = 0)) = b136) := by
  cases c136
  ·exact fun e => by cases e
  replace hb136 := ah hc136 hb136
  exact fun _ => Option.some.inj hb136
 have ho136 : c136 = false → b136 = false := fun e => (Option.some.inj (ai (hc136.trans e) hb136)).symm
 obtain ⟨b137, hb137, h⟩ := aa h
 obtain ⟨c137, hc137⟩ : ∃ c, b136 = c := ⟨_, rfl⟩
 obtain hs137 : c137 = true → ((decide (y78.2.2.2 = 0)) = b137) := by
  cases c137
  ·exact fun e => by cases e
  replace hb137 := ah hc137 hb137
  exact fun _ => Option.some.inj hb137
 have ho137 : c137 = false → b137 = false := fun e => (Option.some.inj (ai (hc137.trans e) hb137)).symm
 obtain ⟨b138, hb138, h⟩ := aa h
 obtain ⟨c138, hc138⟩ : ∃ c, b137 = c := ⟨_, rfl⟩
 obtain hs138 : c138 = true → ((decide ((y78.1.Old.length : Int) = 3)) = b138) := by
  cases c138
  ·exact fun e => by cases e
  replace hb138 := ah hc138 hb138
  exact fun _ => Option.some.inj hb138
 have ho138 : c138 = false → b138 = false := fun e => (Option.some.inj (ai (hc138.trans e) hb138)).symm
 obtain ⟨b139, hb139, h⟩ := aa h
 obtain ⟨c139, hc139⟩ : ∃ c, b138 = c := ⟨_, rfl⟩
 obtain ⟨y140, y141, y144, hs139⟩ : ∃ (y140 : (DValue)) (y141 : (DValue)) (y144 : (Bool)), c139 = true → ((cg N 4) = some y140 ∧ (cg N 6) = some y141 ∧ (km N y78.2.2.1 ([y140, y141, (⟨3, 7, ⟨#[]⟩⟩ : DValue)] : List DValue)) = some y144 ∧ y144 = b139) := by
  cases c139
  ·exact ⟨default, default, default, fun e => by cases e⟩
  replace hb139 := ah hc139 hb139
  obtain ⟨y140, hy140, hb139⟩ := aa hb139
  obtain ⟨y141, hy141, hb139⟩ := aa hb139
  obtain ⟨y144, hy144, hb139⟩ := aa hb139
  exact ⟨y140, y141, y144, fun _ => ⟨hy140, hy141, hy144, Option.some.inj hb139⟩⟩
 have ho139 : c139 = false → b139 = false := fun e => (Option.some.inj (ai (hc139.trans e) hb139)).symm
 refine dK (t := [(0, .bool false), (3, .slice A24 n24 c24), (4, .slice A25 n25 c25), (5, pV B55 0), (6, .slice A50 n50 c50), (7, .slice A52 n52 c52), (8, iV y29.2.2.2), (10, pV B105 0), (12, .slice A102 n102 c102), (13, iV y78.2.2.2)]) ?_ fU (ab _)
 refine d9 (by kernel_rfl) 79 [] [78] (69 :: 70 :: 71 :: 72 :: 73 :: 74 :: 75 :: 76 :: 77 :: 78 :: 79 :: 80 :: 81 :: 82 :: 83 :: 84 :: 85 :: 86 :: 87 :: 88 :: 89 :: 90 :: 91 :: 92 :: 93 :: 94 :: 95 :: 96 :: 97 :: 98 :: 99 :: 100 :: 101 :: 102 :: 103 :: 104 :: 105 :: 106 :: 107 :: 108 :: 109 :: 110 :: 111 :: 112 :: 113 :: 114 :: 115 :: 116 :: 117 :: 118 :: 119 :: 120 :: 121 :: 122 :: 123 :: 124 :: 125 :: 126 :: 127 :: 128 :: 129 :: 130 :: 131 :: 132 :: 133 :: 134 :: 135 :: 136 :: 137 :: 138 :: 139 :: 140 :: 141 :: 142 :: 143 :: 144 :: 145 :: 146 :: 147 :: ([] : List Nat)) ([] :: [] :: [0, 1] :: [2] :: [3] :: [3] :: [3, 4, 5] :: [3, 6] :: [7] :: [8] :: [8, 9] :: [8, 10] :: [11] :: [12] :: [12, 13] :: [12, 14] :: [12, 15] :: [12, 16] :: [17] :: [18] :: [18, 19] :: [18, 20] :: [18, 21] :: [18, 22] :: [23] :: [24] :: [24, 25] :: [24, 26] :: [24, 27] :: [24, 28] :: [24, 29] :: [24, 30] :: [24, 31] :: [32] :: [33] :: [33, 34] :: [33, 35] :: [33, 36] :: [33, 37] :: [33, 38] :: [33, 39] :: [33] :: [33, 40, 41] :: [33, 42] :: [43] :: [44] :: [44, 45] :: [44, 46] :: [44, 47] :: [48] :: [49] :: [49, 50] :: [49, 51] :: [49] :: [49, 52, 53] :: [49, 54] :: [55] :: [56] :: [56, 57] :: [56, 58] :: [56, 59] :: [60] :: [61] :: [61, 62] :: [61, 63] :: [64] :: [65] :: [65, 66] :: [65, 67] :: [65, 68] :: [65, 69] :: [70] :: [71] :: [71] :: [71] :: [71] :: [71, 73, 74, 75] :: [71, 72, 76] :: [71, 77] :: ([] : List (List Nat))) ((aV (.slice A24 n24 c24)) :: (aX3 (fun (A107 : Option Addr) (n107 c107 : Nat) => .slice A107 n107 c107) (fun A107 n107 c107 => [br A107 n107 c107 ([2, 1] : List Int)])) :: (aV (.bool y108)) :: (aV (.bool y108)) :: (bif c109 then aV (.slice A25 n25 c25) else aV undef) :: (bif c109 then aX3 (fun (A111 : Option Addr) (n111 c111 : Nat) => .slice A111 n111 c111) (fun A111 n111 c111 => [br A111 n111 c111 ([2, 4] : List Int)]) else aV undef) :: (bif c109 then aV (.bool y112) else aV undef) :: (aV (.bool b109)) :: (aV (.bool b109)) :: (bif c113 then aV (iV y29.2.2.2) else aV undef) :: (bif c113 then aV (.bool (decide (y29.2.2.2 = 0))) else aV undef) :: (aV (.bool b113)) :: (aV (.bool b113)) :: (bif c114 then aV (pV B55 1) else aV undef) :: (bif c114 then aV (.slice A47 n47 c47) else aV undef) :: (bif c114 then aV (iV (y29.1.Old.length : Int)) else aV undef) :: (bif c114 then aV (.bool (decide ((y29.1.Old.length : Int) = 2))) else aV undef) :: (aV (.bool b114)) :: (aV (.bool b114)) :: (bif c115 then aV (pV B55 0) else aV undef) :: (bif c115 then aV (.slice A46 n46 c46) else aV undef) :: (bif c115 then aV (iV (y29.1.Young.length : Int)) else aV undef) :: (bif c115 then aV (.bool (decide ((y29.1.Young.length : Int) = 0))) else aV undef) :: (aV (.bool b115)) :: (aV (.bool b115)) :: (bif c116 then aV (pV B55 1) else aV undef) :: (bif c116 then aV (.slice A47 n47 c47) else aV undef) :: (bif c116 then aV (cA (.slice A47 n47 c47) ((1 : Int).toNat) 6 0) else aV undef) :: (bif c116 then aV (cA (.slice A47 n47 c47) ((1 : Int).toNat) 6 5) else aV undef) :: (bif c116 then aX3 (fun (A121 : Option Addr) (n121 c121 : Nat) => .slice A121 n121 c121) (fun A121 n121 c121 => [av A121 n121 c121 x117.More]) else aV undef) :: (bif c116 then aV (iV (x117.More.length : Int)) else aV undef) :: (bif c116 then aV (.bool (decide ((x117.More.length : Int) = 1))) else aV undef) :: (aV (.bool b116)) :: (aV (.bool b116)) :: (bif c122 then aV (pV B55 1) else aV undef) :: (bif c122 then aV (.slice A47 n47 c47) else aV undef) :: (bif c122 then aV (cA (.slice A47 n47 c47) ((1 : Int).toNat) 6 0) else aV undef) :: (bif c122 then aV (cA (.slice A47 n47 c47) ((1 : Int).toNat) 6 5) else aV undef) :: (bif c122 then aX3 (fun (A127 : Option Addr) (n127 c127 : Nat) => .slice A127 n127 c127) (fun A127 n127 c127 => [av A127 n127 c127 x123.More]) else aV undef) :: (bif c122 then aX3 (fun (A129 : Option Addr) (n129 c129 : Nat) => cA (.slice A129 n129 c129) ((0 : Int).toNat) 3 0) (fun A129 n129 c129 => [av A129 n129 c129 x123.More]) else aV undef) :: (bif c122 then aV (.agg #[iV x128.Kind, iV x128.N, .string x128.S]) else aV undef) :: (bif c122 then aV (.agg #[iV y131.Kind, iV y131.N, .string y131.S]) else aV undef) :: (bif c122 then aV (.bool (decide (x128 = y131))) else aV undef) :: (aV (.bool b122)) :: (aV (.bool b122)) :: (bif c132 then aV (.slice A50 n50 c50) else aV undef) :: (bif c132 then aV (iV (y29.2.1.length : Int)) else aV undef) :: (bif c132 then aV (.bool (decide ((y29.2.1.length : Int) = 1))) else aV undef) :: (aV (.bool b132)) :: (aV (.bool b132)) :: (bif c133 then aV (.slice A50 n50 c50) else aV undef) :: (bif c133 then aV (cA (.slice A50 n50 c50) ((0 : Int).toNat) 3 0) else aV undef) :: (bif c133 then aV (.agg #[iV x134.Kind, iV x134.N, .string x134.S]) else aV undef) :: (bif c133 then aV (.agg #[iV y135.Kind, iV y135.N, .string y135.S]) else aV undef) :: (bif c133 then aV (.bool (decide (x134 = y135))) else aV undef) :: (aV (.bool b133)) :: (aV (.bool b133)) :: (bif c136 then aV (.slice A52 n52 c52) else aV undef) :: (bif c136 then aV (iV (y29.2.2.1.length : Int)) else aV undef) :: (bif c136 then aV (.bool (decide ((y29.2.2.1.length : Int) = 0))) else aV undef) :: (aV (.bool b136)) :: (aV (.bool b136)) :: (bif c137 then aV (iV y78.2.2.2) else aV undef) :: (bif c137 then aV (.bool (decide (y78.2.2.2 = 0))) else aV undef) :: (aV (.bool b137)) :: (aV (.bool b137)) :: (bif c138 then aV (pV B105 1) else aV undef) :: (bif c138 then aV (.slice A97 n97 c97) else aV undef) :: (bif c138 then aV (iV (y78.1.Old.length : Int)) else aV undef) :: (bif c138 then aV (.bool (decide ((y78.1.Old.length : Int) = 3))) else aV undef) :: (aV (.bool b138)) :: (aV (.bool b138)) :: (bif c139 then aV (.slice A102 n102 c102) else aV undef) :: (bif c139 then aV (.agg #[iV y140.Kind, iV y140.N, .string y140.S]) else aV undef) :: (bif c139 then aV (.agg #[iV y141.Kind, iV y141.N, .string y141.S]) else aV undef) :: (bif c139 then aV (.agg #[iV 3, iV 7, .string (⟨#[]⟩)]) else aV undef) :: (bif c139 then aX3 (fun (A143 : Option Addr) (n143 c143 : Nat) => .slice A143 n143 c143) (fun A143 n143 c143 => [bD A143 n143 c143 ([y140, y141, (⟨3, 7, ⟨#[]⟩⟩ : DValue)] : List DValue)]) else aV undef) :: (bif c139 then aV (.bool y144) else aV undef) :: (aV (.bool b139)) :: ([] : List Asn)) [] (ab _) (fM) (by kernel_rfl) rfl rfl ?_ ?_ ?_
 ·exact fL
 ·refine ac rfl ?_ ?_
  ·cases c139
   ·exact aW (cT hc139 rfl rfl) rfl (aA (by rw [ho139 rfl]) (ab _))
   obtain ⟨hy140, hy141, hy144, hv139⟩ := hs139 rfl
   exact aW (cR hc139 rfl rfl) rfl (aA (by rw [hv139]) (ab _))
  refine ac rfl ?_ ?_
  ·cases c139
   ·exact dW (cX hc139 rfl) (aA rfl (ab _))
   obtain ⟨hy140, hy141, hy144, hv139⟩ := hs139 rfl
   intro A143 n143 c143
   refine eg (am (sS hy144) HT rfl (mem_cons (aj (i := 4) rfl rfl) (mem_cons (aK (i := 0) rfl) ae)) rc) (bd hc139 rfl) ?_
   rintro _ _ ⟨_, ⟨rfl, rfl⟩, rfl⟩
   exact aA rfl (ab _)
  refine ac rfl ?_ ?_
  ·cases c139
   ·exact dW (cX hc139 rfl) (aA rfl (ab _))
   obtain ⟨hy140, hy141, hy144, hv139⟩ := hs139 rfl
   refine eg (bm (R := aw) (vss := [[iV y140.Kind, iV y140.N, .string y140.S], [iV y141.Kind, iV y141.N, .string y141.S], [iV 3, iV 7, .string (⟨#[]⟩)]]) (xs := [y140, y141, (⟨3, 7, ⟨#[]⟩⟩ : DValue)]) rfl (Bi _ _ _ _ _ _ _ _ _) rfl rfl (fun _ _ hr => .cons rfl (.cons rfl (.cons rfl All2.nil)))) (bd hc139 rfl) ?_
   rintro _ _ ⟨A142, n142, c142, rfl, rfl⟩
   exact gX A142 n142 c142 (ab _)
  refine ac rfl ?_ ?_
  ·cases c139
   ·exact dW (cX hc139 rfl) (aA rfl (ab _))
   obtain ⟨hy140, hy141, hy144, hv139⟩ := hs139 rfl
   exact aW (cU rfl (sr _ _)) (bd hc139 rfl) (aA rfl (ab _))
  refine ac rfl ?_ ?_
  ·cases c139
   ·exact dW (cX hc139 rfl) (aA rfl (ab _))
   obtain ⟨hy140, hy141, hy144, hv139⟩ := hs139 rfl
   refine eg (am (dg hy141) mV rfl (ae) cE) (bd hc139 rfl) ?_
   rintro _ _ ⟨_, ⟨rfl, rfl⟩, rfl⟩
   exact aA rfl (ab _)
  refine ac rfl ?_ ?_
  ·cases c139
   ·exact dW (cX hc139 rfl) (aA rfl (ab _))
   obtain ⟨hy140, hy141, hy144, hv139⟩ := hs139 rfl
   refine eg (am (dg hy140) mV rfl (ae) cE) (bd hc139 rfl) ?_
   rintro _ _ ⟨_, ⟨rfl, rfl⟩, rfl⟩
   exact aA rfl (ab _)
  refine ac rfl ?_ ?_
  ·cases c139
   ·exact dW (cX hc139 rfl) (aA rfl (ab _))
   obtain ⟨hy140, hy141, hy144, hv139⟩ := hs139 rfl
   exact aW (az rfl) (bd hc139 rfl) (aA rfl (ab _))
  refine ac rfl ?_ ?_
  ·exact aW (az rfl) rfl (aA rfl (ab _))
  refine ac rfl ?_ ?_
  ·cases c138
   ·exact aW (cT hc138 rfl rfl) rfl (aA (by rw [ho138 rfl]) (ab _))
   have hv138 := hs138 rfl
   exact aW (cR hc138 rfl rfl) rfl (aA (by rw [hv138]) (ab _))
  refine ac rfl ?_ ?_
  ·cases c138
   ·exact dW (cX hc138 rfl) (aA rfl (ab _))
   have hv138 := hs138 rfl
   exact aW (oy rfl rfl) (bd hc138 rfl) (aA rfl (ab _))
  refine ac rfl ?_ ?_
  ·cases c138
   ·exact dW (cX hc138 rfl) (aA rfl (ab _))
   have hv138 := hs138 rfl
   exact cc (aL 1 rfl ao rfl Tryz.underlying22) (bd hc138 rfl) (aA rfl (ab _))
  refine ac rfl ?_ ?_
  ·cases c138
   ·exact dW (cX hc138 rfl) (aA rfl (ab _))
   have hv138 := hs138 rfl
   exact cc (aO 4 rfl rfl gU rfl) (bd hc138 rfl) (aA rfl (ab _))
  refine ac rfl ?_ ?_
  ·cases c138
   ·exact dW (cX hc138 rfl) (aA rfl (ab _))
   have hv138 := hs138 rfl
   exact aW (cr rfl jS) (bd hc138 rfl) (aA rfl (ab _))
  refine ac rfl ?_ ?_
  ·exact aW (az rfl) rfl (aA rfl (ab _))
  refine ac rfl ?_ ?_
  ·cases c137
   ·exact aW (cT hc137 rfl rfl) rfl (aA (by rw [ho137 rfl]) (ab _))
   have hv137 := hs137 rfl
   exact aW (cR hc137 rfl rfl) rfl (aA (by rw [hv137]) (ab _))
  refine ac rfl ?_ ?_
  ·cases c137
   ·exact dW (cX hc137 rfl) (aA rfl (ab _))
   have hv137 := hs137 rfl
   exact aW (oy rfl rfl) (bd hc137 rfl) (aA rfl (ab _))
  refine ac rfl ?_ ?_
  ·cases c137
   ·exact dW (cX hc137 rfl) (aA rfl (ab _))
   have hv137 := hs137 rfl
   exact aW (az rfl) (bd hc137 rfl) (aA rfl (ab _))
  refine ac rfl ?_ ?_
  ·exact aW (az rfl) rfl (aA rfl (ab _))
  refine ac rfl ?_ ?_
  ·cases c136
   ·exact aW (cT hc136 rfl rfl) rfl (aA (by rw [ho136 rfl]) (ab _))
   have hv136 := hs136 rfl
   exact aW (cR hc136 rfl rfl) rfl (aA (by rw [hv136]) (ab _))
  refine ac rfl ?_ ?_
  ·cases c136
   ·exact dW (cX hc136 rfl) (aA rfl (ab _))
   have hv136 := hs136 rfl
   exact aW (oy rfl rfl) (bd hc136 rfl) (aA rfl (ab _))
  refine ac rfl ?_ ?_
  ·cases c136
   ·exact dW (cX hc136 rfl) (aA rfl (ab _))
   have hv136 := hs136 rfl
   exact cc (aL 21 rfl ao rfl Tryz.underlying25) (bd hc136 rfl) (aA rfl (ab _))
  refine ac rfl ?_ ?_
  ·cases c136
   ·exact dW (cX hc136 rfl) (aA rfl (ab _))
   have hv136 := hs136 rfl
   exact aW (az rfl) (bd hc136 rfl) (aA rfl (ab _))
  refine ac rfl ?_ ?_
  ·exact aW (az rfl) rfl (aA rfl (ab _))
  refine ac rfl ?_ ?_
  ·cases c133
   ·exact aW (cT hc133 rfl rfl) rfl (aA (by rw [ho133 rfl]) (ab _))
   obtain ⟨hx134, hy135, hv133⟩ := hs133 rfl
   exact aW (cR hc133 rfl rfl) rfl (aA (by rw [hv133]) (ab _))
  refine ac rfl ?_ ?_
  ·cases c133
   ·exact dW (cX hc133 rfl) (aA rfl (ab _))
   obtain ⟨hx134, hy135, hv133⟩ := hs133 rfl
   exact aW (xg (x := x134) (y := y135) rfl rfl) (bd hc133 rfl) (aA rfl (ab _))
  refine ac rfl ?_ ?_
  ·cases c133
   ·exact dW (cX hc133 rfl) (aA rfl (ab _))
   obtain ⟨hx134, hy135, hv133⟩ := hs133 rfl
   refine eg (am (dg hy135) mV rfl (ae) cE) (bd hc133 rfl) ?_
   rintro _ _ ⟨_, ⟨rfl, rfl⟩, rfl⟩
   exact aA rfl (ab _)
  refine ac rfl ?_ ?_
  ·cases c133
   ·exact dW (cX hc133 rfl) (aA rfl (ab _))
   obtain ⟨hx134, hy135, hv133⟩ := hs133 rfl
   obtain ⟨lx134, ux134, hx134⟩ := au hx134
   exact cc (bA (us := [iV x134.Kind, iV x134.N, .string x134.S]) 20 rfl ao rfl hx134 ca (fun _ _ _ h => by rw [show _ = _ from h]; rfl)) (bd hc133 rfl) (aA rfl (ab _))
  refine ac rfl ?_ ?_
  ·cases c133
   ·exact dW (cX hc133 rfl) (aA rfl (ab _))
   obtain ⟨hx134, hy135, hv133⟩ := hs133 rfl
   obtain ⟨lx134, ux134, hx134⟩ := au hx134
   exact cc (aM 20 rfl ao rfl rfl Tryz.underlying25 bh lx134 ux134) (bd hc133 rfl) (aA rfl (ab _))
  refine ac rfl ?_ ?_
  ·cases c133
   ·exact dW (cX hc133 rfl) (aA rfl (ab _))
   obtain ⟨hx134, hy135, hv133⟩ := hs133 rfl
   exact aW (az rfl) (bd hc133 rfl) (aA rfl (ab _))
  refine ac rfl ?_ ?_
  ·exact aW (az rfl) rfl (aA rfl (ab _))
  refine ac rfl ?_ ?_
  ·cases c132
   ·exact aW (cT hc132 rfl rfl) rfl (aA (by rw [ho132 rfl]) (ab _))
   have hv132 := hs132 rfl
   exact aW (cR hc132 rfl rfl) rfl (aA (by rw [hv132]) (ab _))
  refine ac rfl ?_ ?_
  ·cases c132
   ·exact dW (cX hc132 rfl) (aA rfl (ab _))
   have hv132 := hs132 rfl
   exact aW (oy rfl rfl) (bd hc132 rfl) (aA rfl (ab _))
  refine ac rfl ?_ ?_
  ·cases c132
   ·exact dW (cX hc132 rfl) (aA rfl (ab _))
   have hv132 := hs132 rfl
   exact cc (aL 20 rfl ao rfl Tryz.underlying25) (bd hc132 rfl) (aA rfl (ab _))
  refine ac rfl ?_ ?_
  ·cases c132
   ·exact dW (cX hc132 rfl) (aA rfl (ab _))
   have hv132 := hs132 rfl
   exact aW (az rfl) (bd hc132 rfl) (aA rfl (ab _))
  refine ac rfl ?_ ?_
  ·exact aW (az rfl) rfl (aA rfl (ab _))
  refine ac rfl ?_ ?_
  ·cases c122
   ·exact aW (cT hc122 rfl rfl) rfl (aA (by rw [ho122 rfl]) (ab _))
   obtain ⟨hx123, hx128, hy131, hv122⟩ := hs122 rfl
   exact aW (cR hc122 rfl rfl) rfl (aA (by rw [hv122]) (ab _))
  refine ac rfl ?_ ?_
  ·cases c122
   ·exact dW (cX hc122 rfl) (aA rfl (ab _))
   obtain ⟨hx123, hx128, hy131, hv122⟩ := hs122 rfl
   exact aW (xg (x := x128) (y := y131) rfl rfl) (bd hc122 rfl) (aA rfl (ab _))
  refine ac rfl ?_ ?_
  ·cases c122
   ·exact dW (cX hc122 rfl) (aA rfl (ab _))
   obtain ⟨hx123, hx128, hy131, hv122⟩ := hs122 rfl
   refine eg (am (dg hy131) mV rfl (ae) cE) (bd hc122 rfl) ?_
   rintro _ _ ⟨_, ⟨rfl, rfl⟩, rfl⟩
   exact aA rfl (ab _)
  refine ac rfl ?_ ?_
  ·cases c122
   ·exact dW (cX hc122 rfl) (aA rfl (ab _))
   obtain ⟨hx123, hx128, hy131, hv122⟩ := hs122 rfl
   obtain ⟨lx128, ux128, hx128⟩ := au hx128
   intro A129 n129 c129
   exact cc (bA (us := [iV x128.Kind, iV x128.N, .string x128.S]) 0 rfl ao rfl hx128 ca (fun _ _ _ h => by rw [show _ = _ from h]; rfl)) (bd hc122 rfl) (aA rfl (ab _))
  refine ac rfl ?_ ?_
  ·cases c122
   ·exact dW (cX hc122 rfl) (aA rfl (ab _))
   obtain ⟨hx123, hx128, hy131, hv122⟩ := hs122 rfl
   obtain ⟨lx128, ux128, hx128⟩ := au hx128
   intro A127 n127 c127
   exact cc (aM 0 rfl ao rfl rfl Tryz.underlying25 bh lx128 ux128) (bd hc122 rfl) (gX A127 n127 c127 ((cW 0 rfl rfl).trans (ab _)))
  refine ac rfl ?_ ?_
  ·cases c122
   ·exact dW (cX hc122 rfl) (aA rfl (ab _))
   obtain ⟨hx123, hx128, hy131, hv122⟩ := hs122 rfl
   obtain ⟨lx123, ux123, hx123⟩ := au hx123
   refine Hl 19 rfl hx123 (db x123) ?_
   rintro _ _ ⟨A124, n124, c124, A125, n125, c125, rfl, rfl⟩
   exact cc (qE 0 rfl rfl fe rfl) (bd hc122 rfl) (gX A125 n125 c125 (ad [2, 3, 4, 5, 6, 7, 8, 9, 10, 11, 12, 13, 14, 15, 16, 17, 18, 19, 20, 21, 22, 23, 24, 25, 26, 27, 28, 29, 30, 31, 32, 33, 34, 35, 36, 37, 38, 39, 40, 41, 42, 43] 44 rfl rfl))
  refine ac rfl ?_ ?_
  ·cases c122
   ·exact dW (cX hc122 rfl) (aA rfl (ab _))
   obtain ⟨hx123, hx128, hy131, hv122⟩ := hs122 rfl
   obtain ⟨lx123, ux123, hx123⟩ := au hx123
   exact cc (rv 19 rfl ao rfl (dC lx123 ux123) gn) (bd hc122 rfl) (aA rfl (ab _))
  refine ac rfl ?_ ?_
  ·cases c122
   ·exact dW (cX hc122 rfl) (aA rfl (ab _))
   obtain ⟨hx123, hx128, hy131, hv122⟩ := hs122 rfl
   obtain ⟨lx123, ux123, hx123⟩ := au hx123
   exact cc (aM 19 rfl ao rfl rfl Tryz.underlying22 bz lx123 ux123) (bd hc122 rfl) (aA rfl (ab _))
  refine ac rfl ?_ ?_
  ·cases c122
   ·exact dW (cX hc122 rfl) (aA rfl (ab _))
   obtain ⟨hx123, hx128, hy131, hv122⟩ := hs122 rfl
   exact cc (aO 22 rfl rfl gU rfl) (bd hc122 rfl) (aA rfl (ab _))
  refine ac rfl ?_ ?_
  ·cases c122
   ·exact dW (cX hc122 rfl) (aA rfl (ab _))
   obtain ⟨hx123, hx128, hy131, hv122⟩ := hs122 rfl
   exact aW (cr rfl jS) (bd hc122 rfl) (aA rfl (ab _))
  refine ac rfl ?_ ?_
  ·exact aW (az rfl) rfl (aA rfl (ab _))
  refine ac rfl ?_ ?_
  ·cases c116
   ·exact aW (cT hc116 rfl rfl) rfl (aA (by rw [ho116 rfl]) (ab _))
   obtain ⟨hx117, hv116⟩ := hs116 rfl
   exact aW (cR hc116 rfl rfl) rfl (aA (by rw [hv116]) (ab _))
  refine ac rfl ?_ ?_
  ·cases c116
   ·exact dW (cX hc116 rfl) (aA rfl (ab _))
   obtain ⟨hx117, hv116⟩ := hs116 rfl
   exact aW (oy rfl rfl) (bd hc116 rfl) (aA rfl (ab _))
  refine ac rfl ?_ ?_
  ·cases c116
   ·exact dW (cX hc116 rfl) (aA rfl (ab _))
   obtain ⟨hx117, hv116⟩ := hs116 rfl
   intro A121 n121 c121
   exact cc (aL 0 rfl ao rfl Tryz.underlying25) (bd hc116 rfl) (aA rfl (ab _))
  refine ac rfl ?_ ?_
  ·cases c116
   ·exact dW (cX hc116 rfl) (aA rfl (ab _))
   obtain ⟨hx117, hv116⟩ := hs116 rfl
   obtain ⟨lx117, ux117, hx117⟩ := au hx117
   refine Hl 19 rfl hx117 (db x117) ?_
   rintro _ _ ⟨A118, n118, c118, A119, n119, c119, rfl, rfl⟩
   exact cc (qE 0 rfl rfl fe rfl) (bd hc116 rfl) (gX A119 n119 c119 (ad [2, 3, 4, 5, 6, 7, 8, 9, 10, 11, 12, 13, 14, 15, 16, 17, 18, 19, 20, 21, 22, 23, 24, 25, 26, 27, 28, 29, 30, 31, 32, 33, 34, 35, 36, 37, 38, 39, 40, 41, 42, 43] 44 rfl rfl))
  refine ac rfl ?_ ?_
  ·cases c116
   ·exact dW (cX hc116 rfl) (aA rfl (ab _))
   obtain ⟨hx117, hv116⟩ := hs116 rfl
   obtain ⟨lx117, ux117, hx117⟩ := au hx117
   exact cc (rv 19 rfl ao rfl (dC lx117 ux117) gn) (bd hc116 rfl) (aA rfl (ab _))
  refine ac rfl ?_ ?_
  ·cases c116
   ·exact dW (cX hc116 rfl) (aA rfl (ab _))
   obtain ⟨hx117, hv116⟩ := hs116 rfl
   obtain ⟨lx117, ux117, hx117⟩ := au hx117
   exact cc (aM 19 rfl ao rfl rfl Tryz.underlying22 bz lx117 ux117) (bd hc116 rfl) (aA rfl (ab _))
  refine ac rfl ?_ ?_
  ·cases c116
   ·exact dW (cX hc116 rfl) (aA rfl (ab _))
   obtain ⟨hx117, hv116⟩ := hs116 rfl
   exact cc (aO 22 rfl rfl gU rfl) (bd hc116 rfl) (aA rfl (ab _))
  refine ac rfl ?_ ?_
  ·cases c116
   ·exact dW (cX hc116 rfl) (aA rfl (ab _))
   obtain ⟨hx117, hv116⟩ := hs116 rfl
   exact aW (cr rfl jS) (bd hc116 rfl) (aA rfl (ab _))
  refine ac rfl ?_ ?_
  ·exact aW (az rfl) rfl (aA rfl (ab _))
  refine ac rfl ?_ ?_
  ·cases c115
   ·exact aW (cT hc115 rfl rfl) rfl (aA (by rw [ho115 rfl]) (ab _))
   have hv115 := hs115 rfl
   exact aW (cR hc115 rfl rfl) rfl (aA (by rw [hv115]) (ab _))
  refine ac rfl ?_ ?_
  ·cases c115
   ·exact dW (cX hc115 rfl) (aA rfl (ab _))
   have hv115 := hs115 rfl
   exact aW (oy rfl rfl) (bd hc115 rfl) (aA rfl (ab _))
  refine ac rfl ?_ ?_
  ·cases c115
   ·exact dW (cX hc115 rfl) (aA rfl (ab _))
   have hv115 := hs115 rfl
   exact cc (aL 18 rfl ao rfl Tryz.underlying22) (bd hc115 rfl) (aA rfl (ab _))
  refine ac rfl ?_ ?_
  ·cases c115
   ·exact dW (cX hc115 rfl) (aA rfl (ab _))
   have hv115 := hs115 rfl
   exact cc (aO 22 rfl rfl gU rfl) (bd hc115 rfl) (aA rfl (ab _))
  refine ac rfl ?_ ?_
  ·cases c115
   ·exact dW (cX hc115 rfl) (aA rfl (ab _))
   have hv115 := hs115 rfl
   exact aW (jm rfl tz) (bd hc115 rfl) (aA rfl (ab _))
  refine ac rfl ?_ ?_
  ·exact aW (az rfl) rfl (aA rfl (ab _))
  refine ac rfl ?_ ?_
  ·cases c114
   ·exact aW (cT hc114 rfl rfl) rfl (aA (by rw [ho114 rfl]) (ab _))
   have hv114 := hs114 rfl
   exact aW (cR hc114 rfl rfl) rfl (aA (by rw [hv114]) (ab _))
  refine ac rfl ?_ ?_
  ·cases c114
   ·exact dW (cX hc114 rfl) (aA rfl (ab _))
   have hv114 := hs114 rfl
   exact aW (oy rfl rfl) (bd hc114 rfl) (aA rfl (ab _))
  refine ac rfl ?_ ?_
  ·cases c114
   ·exact dW (cX hc114 rfl) (aA rfl (ab _))
   have hv114 := hs114 rfl
   exact cc (aL 19 rfl ao rfl Tryz.underlying22) (bd hc114 rfl) (aA rfl (ab _))
  refine ac rfl ?_ ?_
  ·cases c114
   ·exact dW (cX hc114 rfl) (aA rfl (ab _))
   have hv114 := hs114 rfl
   exact cc (aO 22 rfl rfl gU rfl) (bd hc114 rfl) (aA rfl (ab _))
  refine ac rfl ?_ ?_
  ·cases c114
   ·exact dW (cX hc114 rfl) (aA rfl (ab _))
   have hv114 := hs114 rfl
   exact aW (cr rfl jS) (bd hc114 rfl) (aA rfl (ab _))
  refine ac rfl ?_ ?_
  ·exact aW (az rfl) rfl (aA rfl (ab _))
  refine ac rfl ?_ ?_
  ·cases c113
   ·exact aW (cT hc113 rfl rfl) rfl (aA (by rw [ho113 rfl]) (ab _))
   have hv113 := hs113 rfl
   exact aW (cR hc113 rfl rfl) rfl (aA (by rw [hv113]) (ab _))
  refine ac rfl ?_ ?_
  ·cases c113
   ·exact dW (cX hc113 rfl) (aA rfl (ab _))
   have hv113 := hs113 rfl
   exact aW (oy rfl rfl) (bd hc113 rfl) (aA rfl (ab _))
  refine ac rfl ?_ ?_
  ·cases c113
   ·exact dW (cX hc113 rfl) (aA rfl (ab _))
   have hv113 := hs113 rfl
   exact aW (az rfl) (bd hc113 rfl) (aA rfl (ab _))
  refine ac rfl ?_ ?_
  ·exact aW (az rfl) rfl (aA rfl (ab _))
  refine ac rfl ?_ ?_
  ·cases c109
   ·exact aW (cT hc109 rfl rfl) rfl (aA (by rw [ho109 rfl]) (ab _))
   obtain ⟨hy112, hv109⟩ := hs109 rfl
   exact aW (cR hc109 rfl rfl) rfl (aA (by rw [hv109]) (ab _))
  refine ac rfl ?_ ?_
  ·cases c109
   ·exact dW (cX hc109 rfl) (aA rfl (ab _))
   obtain ⟨hy112, hv109⟩ := hs109 rfl
   intro A111 n111 c111
   refine eg (am (uG hy112) FI rfl (mem_cons (aK (i := 25) rfl) (mem_cons (aK (i := 0) rfl) ae)) ry) (bd hc109 rfl) ?_
   rintro _ _ ⟨_, ⟨rfl, rfl⟩, rfl⟩
   exact aA rfl (ab _)
  refine ac rfl ?_ ?_
  ·cases c109
   ·exact dW (cX hc109 rfl) (aA rfl (ab _))
   obtain ⟨hy112, hv109⟩ := hs109 rfl
   refine eg (bm (R := (dS .i64)) (vss := [[iV 2], [iV 4]]) (xs := [2, 4]) rfl (xt _ _) rfl rfl (fun _ _ hr => .cons rfl (.cons rfl All2.nil))) (bd hc109 rfl) ?_
   rintro _ _ ⟨A110, n110, c110, rfl, rfl⟩
   exact gX A110 n110 c110 (ab _)
  refine ac rfl ?_ ?_
  ·cases c109
   ·exact dW (cX hc109 rfl) (aA rfl (ab _))
   obtain ⟨hy112, hv109⟩ := hs109 rfl
   exact aW (az rfl) (bd hc109 rfl) (aA rfl (ab _))
  refine ac rfl ?_ ?_
  ·exact aW (az rfl) rfl (aA rfl (ab _))
  refine ac rfl ?_ ?_
  ·intro A107 n107 c107
   refine eg (am (uG hy108) FI rfl (mem_cons (aK (i := 24) rfl) (mem_cons (aK (i := 0) rfl) ae)) ry) rfl ?_
   rintro _ _ ⟨_, ⟨rfl, rfl⟩, rfl⟩
   exact aA rfl (ab _)
  refine ac rfl ?_ ?_
  ·refine eg (bm (R := (dS .i64)) (vss := [[iV 2], [iV 1]]) (xs := [2, 1]) rfl (xt _ _) rfl rfl (fun _ _ hr => .cons rfl (.cons rfl All2.nil))) rfl ?_
   rintro _ _ ⟨A106, n106, c106, rfl, rfl⟩
   exact gX A106 n106 c106 (ab _)
  refine ac rfl ?_ ?_
  ·exact aW (az rfl) rfl (aA rfl (ab _))
  exact cO
 refine ip (t := [(147, .bool b139), (0, .bool false), (3, .slice A24 n24 c24), (4, .slice A25 n25 c25), (5, pV B55 0), (6, .slice A50 n50 c50), (7, .slice A52 n52 c52), (8, iV y29.2.2.2), (10, pV B105 0), (12, .slice A102 n102 c102), (13, iV y78.2.2.2)]) (L' := [aF A96 n96 c96 y78.1.Young, aF A97 n97 c97 y78.1.Old, av A100 n100 c100 y78.2.1, av A102 n102 c102 y78.2.2.1, ag B105 24 [.slice A96 n96 c96, .slice A97 n97 c97], ag B74 24 [.slice none 0 0, .slice A73 n73 c73], aF A73 n73 c73 ([(⟨10, 0, 0, 0, ([(⟨1, 0, ⟨#[]⟩⟩ : DValue)] : List DValue), ([y57, y58, y59, (⟨0, 0, ⟨#[]⟩⟩ : DValue), (⟨3, 7, ⟨#[]⟩⟩ : DValue)] : List DValue)⟩ : DCell), y61, y65, y69] : List DCell), av A70 n70 c70 y69.Slots, av A71 n71 c71 y69.More, dq aw (.slice none 0 0) ([] : List DValue), av A66 n66 c66 y65.Slots, av A67 n67 c67 y65.More, dq aw (.slice none 0 0) ([] : List DValue), av A62 n62 c62 y61.Slots, av A63 n63 c63 y61.More, dq aw (.slice none 0 0) ([] : List DValue), av A60 n60 c60 ([y57, y58, y59, (⟨0, 0, ⟨#[]⟩⟩ : DValue), (⟨3, 7, ⟨#[]⟩⟩ : DValue)] : List DValue), av A56 n56 c56 ([(⟨1, 0, ⟨#[]⟩⟩ : DValue)] : List DValue), aF A46 n46 c46 y29.1.Young, aF A47 n47 c47 y29.1.Old, av A50 n50 c50 y29.2.1, av A52 n52 c52 y29.2.2.1, ag B55 24 [.slice A46 n46 c46, .slice A47 n47 c47], br A24 n24 c24 y23.1, br A25 n25 c25 y23.2, bD A22 n22 c22 ([y21] : List DValue), ag B20 24 [.slice A10 n10 c10, .slice A19 n19 c19], aF A19 n19 c19 ([y11, y15] : List DCell), av A16 n16 c16 y15.Slots, av A17 n17 c17 y15.More, dq aw (.slice none 0 0) ([] : List DValue), av A12 n12 c12 y11.Slots, av A13 n13 c13 y11.More, dq aw (.slice none 0 0) ([] : List DValue), aF A10 n10 c10 ([y3, y6] : List DCell), av A7 n7 c7 y6.Slots, av A8 n8 c8 y6.More, dq aw (.slice none 0 0) ([] : List DValue), av A4 n4 c4 y3.Slots, av A5 n5 c5 y3.More, av A2 n2 c2 ([y1] : List DValue)]) ?_ fU (ab _)
 refine mY 79 rfl (by kernel_rfl) (bw rfl) rfl rfl rfl ?_
 refine fT (by kernel_rfl) ?_
 refine run ?_
 obtain rfl := aq h
 exact aQ rfl rfl (ad [] 41 rfl rfl) ⟨rfl, rfl⟩
theorem rl {r : Bool} : ∀ v post, ((fun (u : Value) (post : List Chunk) => u = .bool r ∧ post = [])) v post → ∀ c ∈ post, cZ c := by
 rintro _ _ ⟨rfl, rfl⟩; exact ae
def gz (N : Nat) (a0 : DValue) : Option (Int × Bool) :=
 (bif decide (a0.Kind = 7) then (some true) else (some (decide (a0.Kind = 9)))).bind fun b2 => some (a0.N, b2)
theorem ou {N : Nat} {a0 : DValue} {r : (Int × Bool)} (h : gz N a0 = some r) : Okc Tryz.prog 150 [.agg #[iV a0.Kind, iV a0.N, .string a0.S]] ([]) (fun u post => u = .tuple #[iV r.1, .bool r.2] ∧ post = []) := by
 refine bN Tryz.func150 rfl rfl ?_
 simp only [bc]
 refine run ?_
 refine gD (bo rfl rfl) ?_
 rintro _ _ ⟨B1, rfl, rfl⟩
 refine run ?_
 refine aB ?_
 refine dB (by kernel_rfl) _ (ab _) ?_
 refine aI 0 rfl (by kernel_rfl) (cr rfl qR) rfl rfl ?_
 refine bv 1 rfl (by kernel_rfl) (aO 0 rfl rfl eo rfl) rfl rfl ?_
 refine aI 2 rfl (by kernel_rfl) (jm rfl kP) rfl rfl ?_
 refine bv 3 rfl (by kernel_rfl) (aO 0 rfl rfl eo rfl) rfl rfl ?_
 refine aI 4 rfl (by kernel_rfl) (oy rfl rfl) rfl rfl ?_
 refine aI 5 rfl (by kernel_rfl) (az rfl) rfl rfl ?_
 refine aI 10 rfl (by kernel_rfl) (bw rfl) rfl rfl ?_
 obtain ⟨b2, hb2, h⟩ := aa h
 refine tR (fun l => ((((l.setIfInBounds 6 true).setIfInBounds 7 true).setIfInBounds 8 true).setIfInBounds 9 true)) 1 13 b2 (fun rest => ?_) ?_
 ·clear h
  refine vL 9 rfl (fun g2 => ?_) (fun g2 => ?_)
  ·have h := ah g2 hb2
   refine i9 6 rfl (by kernel_rfl) (Ci g2 rfl) rfl ?_
   refine i9 7 rfl (by kernel_rfl) (Ci g2 rfl) rfl ?_
   refine i9 8 rfl (by kernel_rfl) (Ci g2 rfl) rfl ?_
   refine aI 9 rfl (by kernel_rfl) (cR g2 rfl rfl) rfl rfl ?_
   obtain rfl := aq h
   exact qp rest (iR rfl (bf (bf (bf (bf cw rfl) rfl) rfl) rfl)) (ab _) (ab _)
  have h := ai g2 hb2
  refine aI 6 rfl (by kernel_rfl) (jm rfl kP) (gm g2 rfl) rfl ?_
  refine bv 7 rfl (by kernel_rfl) (aO 0 rfl rfl eo rfl) (gm g2 rfl) rfl ?_
  refine aI 8 rfl (by kernel_rfl) (oy rfl rfl) (gm g2 rfl) rfl ?_
  refine aI 9 rfl (by kernel_rfl) (cT g2 rfl rfl) rfl rfl ?_
  obtain rfl := aq h
  exact qp rest (iR rfl (bf (bf (bf (bf cw rfl) rfl) rfl) rfl)) (ab _) (ab _)
 refine aI 11 rfl (by kernel_rfl) (bw rfl) rfl rfl ?_
 refine dA (by kernel_rfl) ?_
 refine run ?_
 obtain rfl := aq h
 exact Hi rfl rfl rfl (ad [] 1 rfl rfl) ⟨rfl, rfl⟩
theorem mA {r : (Int × Bool)} : ∀ v post, ((fun (u : Value) (post : List Chunk) => u = .tuple #[iV r.1, .bool r.2] ∧ post = [])) v post → ∀ c ∈ post, cZ c := by
 rintro _ _ ⟨rfl, rfl⟩; exact ae
def jI (N : Nat) (a0 : DValue) (a1 : DMemory) : Option Bool :=
 (gz N a0).bind fun y5 => (bif y5.2 then ((dx N a1 y5.1).bind fun y7 => some (!y7)) else (some false)).bind fun b6 => some b6
theorem vm {N : Nat} {a0 : DValue} {a1 : DMemory} {r : Bool} (h : jI N a0 a1 = some r) : Okc Tryz.prog 149 [.agg #[iV a0.Kind, iV a0.N, .string a0.S], pV B1 0] ([bU B1 24 [.slice A2 n2 c2, .slice A3 n3 c3], aF A2 n2 c2 a1.Young, aF A3 n3 c3 a1.Old]) (fun u post => u = .bool r ∧ post = []) := by
 refine bN Tryz.func149 rfl rfl ?_
 simp only [bc]
 refine run ?_
 refine gD (bo rfl rfl) ?_
 rintro _ _ ⟨B4, rfl, rfl⟩
 refine run ?_
 refine gR (aC (us := [iV a0.Kind, iV a0.N, .string a0.S]) 0 rfl rfl ca rfl) ?_
 obtain ⟨y5, hy5, h⟩ := aa h
 refine gD (am (ou hy5) Dd rfl (ae) mA) ?_
 rintro _ _ ⟨_, ⟨rfl, rfl⟩, rfl⟩
 refine run ?_
 obtain ⟨b6, hb6, h⟩ := aa h
 refine aX 5 17 b6 ?_ ?_
 ·clear h
  refine aY 12 rfl (fun g6 => ?_) (fun g6 => ?_)
  ·have h := ah g6 hb6
   refine cY (om (us := [.slice A2 n2 c2, .slice A3 n3 c3]) 1 rfl rfl cN rfl) rfl (bd g6 rfl) rfl ?_
   refine run ?_
   obtain ⟨y7, hy7, h⟩ := aa h
   refine dj (am (dM hy7) nW rfl (mem_cons (aj (i := 2) rfl rfl) (mem_cons (aj (i := 3) rfl rfl) ae)) dh) rfl (bd g6 rfl) rfl ?_
   rintro _ _ ⟨_, ⟨rfl, rfl⟩, rfl⟩
   refine run ?_
   obtain rfl := aq h
   exact ak sA (ad [0, 1, 2, 3] 4 rfl rfl)
  have h := ai g6 hb6
  refine run ?_
  obtain rfl := aq h
  exact ak sA (ad [0, 1, 2, 3] 4 rfl rfl)
 refine run ?_
 obtain rfl := aq h
 exact aQ rfl rfl (ad [] 4 rfl rfl) ⟨rfl, rfl⟩
def iG (N : Nat) (ff : DValue → Option Bool) : Option Int :=
 some (-1)
def slices_IndexFunc_Value_l3 (N : Nat) (ff : DValue → Option Bool) (a0 : (List DValue)) : Nat → Int → Option Int
 | 0, _ => none
 | m3 + 1, p4 => bif decide (p4 < (a0.length : Int)) then ((aG a0 p4).bind fun x6 => (ff x6).bind fun y7 => bif y7 then (some p4) else (bM (in64 (p4 + 1)) ((slices_IndexFunc_Value_l3 N ff a0 m3) (p4 + 1)))) else (iG N ff)
def fw (N : Nat) (a0 : (List DValue)) (ff : DValue → Option Bool) : Option Int :=
 slices_IndexFunc_Value_l3 N ff a0 N 0
theorem nb {N : Nat} {a0 : (List DValue)} {ff : DValue → Option Bool} {r : Int} (h : fw N a0 ff = some r) {vf : Value} {G : List Chunk} (hf : Bq Tryz.prog vf G (fun x => [.agg #[iV x.Kind, iV x.N, .string x.S]]) (fun r => .bool r) ff) : Okc Tryz.prog 186 [.slice A1 n1 c1, vf] (av A1 n1 c1 a0 :: G) (fun u post => u = iV r ∧ post = []) := by
 refine bN Tryz.func186 rfl rfl ?_
 simp only [bc]
 refine run ?_
 refine aS (fun s L => iG N ff = some r ∧ s = [(4, iV 0)] ∧ L = G) ?_ ?_
 ·refine run ?_
  refine gR (aL 0 rfl ao rfl Tryz.underlying25) ?_
  refine run ?_
  refine bp (fun m s L => ∃ p4, slices_IndexFunc_Value_l3 N ff a0 m p4 = some r ∧ s = [(0, .slice A1 n1 c1), (1, vf), (4, iV 0), (7, iV (a0.length : Int)), (8, iV p4)] ∧ L = av A1 n1 c1 a0 :: G) N _ _ ⟨0, h, rfl, rfl⟩ sA (ad [0] 1 rfl rfl) ?_
  rintro (_ | m3) _ _ ⟨p4, h, rfl, rfl⟩
  ·exact aD h
  rw [slices_IndexFunc_Value_l3.eq_2] at h
  refine run ?_
  refine aB ?_
  refine ay rfl (fun g5 => ?_) (fun g5 => ?_)
  ·replace h := ah g5 h
   refine run ?_
   refine aB ?_
   refine run ?_
   obtain ⟨x6, hx6, h⟩ := aa h
   obtain ⟨lx6, ux6, hx6⟩ := au hx6
   refine gR (aM 0 rfl ao rfl rfl Tryz.underlying25 bh lx6 ux6) ?_
   refine gR (bA (us := [iV x6.Kind, iV x6.N, .string x6.S]) 0 rfl ao rfl hx6 ca (fun _ _ _ h => by rw [show _ = _ from h]; rfl)) ?_
   obtain ⟨y7, hy7, h⟩ := aa h
   refine gD (ta (a := x6) [av A1 n1 c1 a0] hf hy7 rfl rfl) ?_
   rintro _ _ ⟨rfl, rfl⟩
   refine run ?_
   refine ay rfl (fun g8 => ?_) (fun g8 => ?_)
   ·replace h := ah g8 h
    refine run ?_
    obtain rfl := aq h
    exact aQ rfl rfl (kR [] 1 rfl rfl) ⟨rfl, rfl⟩
   replace h := ai g8 h
   refine run ?_
   obtain ⟨q9, h⟩ := ap h
   refine gE (aR rfl rfl q9.1 q9.2) ?_
   refine run ?_
   exact ⟨m3, _, _, Nat.lt_succ_self _, ⟨p4 + 1, h, rfl, rfl⟩, sA, ad [0] 1 rfl rfl⟩
  replace h := ai g5 h
  refine run ?_
  exact ⟨_, _, ⟨h, rfl, rfl⟩, sA, ad [] 1 rfl rfl⟩
 rintro _ _ ⟨h, rfl, rfl⟩
 refine run ?_
 obtain rfl := aq h
 exact aQ rfl rfl (kR [] 0 rfl rfl) ⟨rfl, rfl⟩
theorem lM {r : Int} : ∀ v post, ((fun (u : Value) (post : List Chunk) => u = iV r ∧ post = [])) v post → ∀ c ∈ post, cZ c := by
 rintro _ _ ⟨rfl, rfl⟩; exact ae
def cM (N : Nat) (a0 : (List DValue)) (ff : DValue → Option Bool) : Option Bool :=
 (fw N a0 ff).bind fun y2 => some (decide (0 ≤ y2))
theorem ls {N : Nat} {a0 : (List DValue)} {ff : DValue → Option Bool} {r : Bool} (h : cM N a0 ff = some r) {vf : Value} {G : List Chunk} (hf : Bq Tryz.prog vf G (fun x => [.agg #[iV x.Kind, iV x.N, .string x.S]]) (fun r => .bool r) ff) : Okc Tryz.prog 151 [.slice A1 n1 c1, vf] (av A1 n1 c1 a0 :: G) (fun u post => u = .bool r ∧ post = []) := by
 refine bN Tryz.func151 rfl rfl ?_
 simp only [bc]
 refine run ?_
 obtain ⟨y2, hy2, h⟩ := aa h
 refine gD (am (nb hy2 hf) GK rfl (mem_cons (aj (i := 0) rfl rfl) (um (E := [av A1 n1 c1 a0]) hf.1)) lM) ?_
 rintro _ _ ⟨_, ⟨rfl, rfl⟩, rfl⟩
 refine run ?_
 obtain rfl := aq h
 exact aQ rfl rfl (kR [] 1 rfl rfl) ⟨rfl, rfl⟩
theorem kd {r : Bool} : ∀ v post, ((fun (u : Value) (post : List Chunk) => u = .bool r ∧ post = [])) v post → ∀ c ∈ post, cZ c := by
 rintro _ _ ⟨rfl, rfl⟩; exact ae
def eQ (N : Nat) (p3 : (List DCell)) : Option (List DCell) :=
 some p3
def gZ (N : Nat) (a1 : Int) : Option (List DCell) :=
 bif decide (a1 < 0) then none else (bM (in64 (0 - 0)) (bM (in64 (a1 - (0 - 0))) (bif decide (0 < a1 - (0 - 0)) then (bM ((0 : Int) < (a1 - (0 - 0)) ∧ (a1 - (0 - 0)) ≤ 1099511627776) (eQ N ([] : List DCell))) else (eQ N []))))
theorem pm {N : Nat} {a1 : Int} {r : (List DCell)} (h : gZ N a1 = some r) : Okc Tryz.prog 199 [.slice none 0 0, iV a1] ([]) (fun u post => ∃ A0 n0 c0, u = .slice A0 n0 c0 ∧ post = [cz A0 n0 c0 r]) := by
 refine bN Tryz.func199 rfl rfl ?_
 simp only [bc]
 refine run ?_
 refine aB ?_
 refine run ?_
 refine ay rfl (fun g1 => ?_) (fun g1 => ?_)
 ·replace h := ah g1 h
  exact aD h
 replace h := ai g1 h
 refine run ?_
 refine aS (fun s L => ∃ p3 A3 n3 c3, eQ N p3 = some r ∧ s = [(0, .slice A3 n3 c3), (4, .slice none 0 0)] ∧ L = [cz A3 n3 c3 p3]) ?_ ?_
 ·refine run ?_
  refine gE (vF rfl Tryz.underlying22) ?_
  refine run ?_
  refine gE (nT rfl Tryz.underlying22) ?_
  obtain ⟨q4, h⟩ := ap h
  refine gE (sb rfl rfl q4.1 q4.2) ?_
  obtain ⟨q5, h⟩ := ap h
  refine gE (sb rfl rfl q5.1 q5.2) ?_
  refine run ?_
  refine ay rfl (fun g6 => ?_) (fun g6 => ?_)
  ·replace h := ah g6 h
   refine run ?_
   refine gE (vF rfl Tryz.underlying22) ?_
   refine gE (yD rfl Tryz.underlying22 bz rfl) ?_
   refine run ?_
   obtain ⟨q7, h⟩ := ap h
   refine gD (wG rfl rfl Tryz.underlying22 Tryz.underlying3 Af rfl q7.1 q7.2) ?_
   rintro _ _ ⟨A8, n8, c8, rfl, rfl⟩
   refine run ?_
   refine gE (nT rfl Tryz.underlying22) ?_
   refine gD (CS (R := bO) 0 rfl rfl Tryz.underlying22 bz rfl rfl) ?_
   rintro _ _ ⟨A9, n9, c9, rfl, rfl⟩
   refine run ?_
   exact ⟨_, _, ⟨([] : List DCell), A9, n9, c9, h, rfl, rfl⟩, sA, ad [0] 1 rfl rfl⟩
  replace h := ai g6 h
  refine run ?_
  exact ⟨_, _, ⟨[], none, 0, 0, h, rfl, rfl⟩, sA, (cH bO 32 _).trans (ad [0] 1 rfl rfl)⟩
 rintro _ _ ⟨p3, A3, n3, c3, h, rfl, rfl⟩
 refine run ?_
 obtain rfl := aq h
 exact aQ rfl rfl (ad [0] 1 rfl rfl) ⟨_, _, _, rfl, rfl⟩
def gc (N : Nat) (p12 : (List DCell)) : Option (List DCell) :=
 some p12
def gL (N : Nat) (a0_0 : (List DCell)) (a0_1 : (List DCell)) : Option (List DCell) :=
 (gZ N ((0 + (a0_0.length : Int)) + (a0_1.length : Int))).bind fun y9 => bM (cD (y9.length + a0_0.length)) (bM (cD ((y9 ++ a0_0).length + a0_1.length)) (gc N ((y9 ++ a0_0) ++ a0_1)))
def eY (N : Nat) (a0_0 : (List DCell)) (a0_1 : (List DCell)) : Option (List DCell) :=
 bM (in64 (0 + (a0_0.length : Int))) (bif decide (0 + (a0_0.length : Int) < 0) then none else (bM (in64 ((0 + (a0_0.length : Int)) + (a0_1.length : Int))) (bif decide ((0 + (a0_0.length : Int)) + (a0_1.length : Int) < 0) then none else (gL N a0_0 a0_1))))
theorem po {N : Nat} {a0_0 : (List DCell)} {a0_1 : (List DCell)} {r : (List DCell)} (h : eY N a0_0 a0_1 = some r) : Okc Tryz.prog 187 [.slice (some ⟨B1, 0, none⟩) 2 2] ([bU B1 22 [.slice A2 n2 c2, .slice A3 n3 c3], aF A2 n2 c2 a0_0, aF A3 n3 c3 a0_1]) (fun u post => ∃ A0 n0 c0, u = .slice A0 n0 c0 ∧ post = [cz A0 n0 c0 r]) := by
 refine bN Tryz.func187 rfl rfl ?_
 simp only [bc]
 refine run ?_
 refine aS (fun s L => gL N a0_0 a0_1 = some r ∧ s = [(0, .slice (some ⟨B1, 0, none⟩) 2 2), (2, .slice none 0 0), (3, iV ((0 + (a0_0.length : Int)) + (a0_1.length : Int)))] ∧ L = [aF A2 n2 c2 a0_0, aF A3 n3 c3 a0_1, bU B1 22 [.slice A2 n2 c2, .slice A3 n3 c3]]) ?_ ?_
 ·refine run ?_
  refine gE (nT rfl Tryz.underlying66) ?_
  refine run ?_
  refine qt 3 ?_
  refine sv ?_
  refine run ?_
  refine aB ?_
  refine iq rfl ?_
  refine run ?_
  refine aB ?_
  refine run ?_
  refine gE (mK rfl rfl Tryz.underlying66 nL (by decide) (by decide)) ?_
  refine gR (ci 0 rfl rfl gU rfl) ?_
  refine run ?_
  refine gR (aL 1 rfl ao rfl Tryz.underlying22) ?_
  obtain ⟨q5, h⟩ := ap h
  refine gE (aR rfl rfl q5.1 q5.2) ?_
  refine run ?_
  refine ay rfl (fun g6 => ?_) (fun g6 => ?_)
  ·replace h := ah g6 h
   exact aD h
  replace h := ai g6 h
  refine run ?_
  refine gE (aR rfl rfl (by decide) (by decide)) ?_
  refine run ?_
  refine sv ?_
  refine run ?_
  refine aB ?_
  refine iq rfl ?_
  refine run ?_
  refine aB ?_
  refine run ?_
  refine gE (mK rfl rfl Tryz.underlying66 nL (by decide) (by decide)) ?_
  refine gR (ci 0 rfl rfl gU rfl) ?_
  refine run ?_
  refine gR (aL 2 rfl ao rfl Tryz.underlying22) ?_
  obtain ⟨q7, h⟩ := ap h
  refine gE (aR rfl rfl q7.1 q7.2) ?_
  refine run ?_
  refine ay rfl (fun g8 => ?_) (fun g8 => ?_)
  ·replace h := ah g8 h
   exact aD h
  replace h := ai g8 h
  refine run ?_
  refine gE (aR rfl rfl (by decide) (by decide)) ?_
  refine run ?_
  refine sv ?_
  refine run ?_
  refine aB ?_
  refine lm rfl ?_
  refine run ?_
  exact ⟨_, _, ⟨h, rfl, rfl⟩, sA, ad [1, 2, 0] 3 rfl rfl⟩
 rintro _ _ ⟨h, rfl, rfl⟩
 refine run ?_
 obtain ⟨y9, hy9, h⟩ := aa h
 refine gD (bH (pm hy9) GF rfl (be [] [] [0, 1, 2] 3 rfl)) ?_
 rintro _ _ ⟨_, ⟨A10, n10, c10, rfl, rfl⟩, rfl⟩
 refine run ?_
 refine aS (fun s L => ∃ p12 A12 n12 c12, gc N p12 = some r ∧ s = [(2, .slice none 0 0), (6, .slice A12 n12 c12)] ∧ L = [cz A12 n12 c12 p12]) ?_ ?_
 ·refine run ?_
  refine gE (nT rfl Tryz.underlying66) ?_
  refine run ?_
  refine qt 3 ?_
  refine sv ?_
  refine run ?_
  refine aB ?_
  refine iq rfl ?_
  refine run ?_
  refine aB ?_
  refine run ?_
  refine gE (mK rfl rfl Tryz.underlying66 nL (by decide) (by decide)) ?_
  refine gR (ci 3 rfl rfl gU rfl) ?_
  refine run ?_
  obtain ⟨q13, h⟩ := ap h
  refine gD (bF 0 1 rfl rfl ao rfl rfl Tryz.underlying22 Af rfl rfl q13) ?_
  rintro _ _ ⟨A14, n14, c14, rfl, rfl⟩
  refine run ?_
  refine gE (aR rfl rfl (by decide) (by decide)) ?_
  refine run ?_
  refine sv ?_
  refine run ?_
  refine aB ?_
  refine iq rfl ?_
  refine run ?_
  refine aB ?_
  refine run ?_
  refine gE (mK rfl rfl Tryz.underlying66 nL (by decide) (by decide)) ?_
  refine gR (ci 3 rfl rfl gU rfl) ?_
  refine run ?_
  obtain ⟨q15, h⟩ := ap h
  refine gD (bF 0 2 rfl rfl ao rfl rfl Tryz.underlying22 Af rfl rfl q15) ?_
  rintro _ _ ⟨A16, n16, c16, rfl, rfl⟩
  refine bC ([cz A16 n16 c16 ((y9 ++ a0_0) ++ a0_1), aF A2 n2 c2 a0_0, aF A3 n3 c3 a0_1, bU B1 22 [.slice A2 n2 c2, .slice A3 n3 c3]]) rfl ?_
  refine run ?_
  refine gE (aR rfl rfl (by decide) (by decide)) ?_
  refine run ?_
  refine sv ?_
  refine run ?_
  refine aB ?_
  refine lm rfl ?_
  refine run ?_
  exact ⟨_, _, ⟨(y9 ++ a0_0) ++ a0_1, A16, n16, c16, h, rfl, rfl⟩, sA, ad [0] 4 rfl rfl⟩
 rintro _ _ ⟨p12, A12, n12, c12, h, rfl, rfl⟩
 refine run ?_
 obtain rfl := aq h
 exact aQ rfl rfl (ad [0] 1 rfl rfl) ⟨_, _, _, rfl, rfl⟩
def fh (N : Nat) (a0 : DCell) : Option (List Int) :=
 (dQ N a0).bind fun y4 => (fC N a0).bind fun y6 => bM (cD (y4.length + y6.length)) (some (y4 ++ y6))
theorem my {N : Nat} {a0 : DCell} {r : (List Int)} (h : fh N a0 = some r) : Okc Tryz.prog 153 [.agg #[iV a0.Kind, iV a0.Shape, iV a0.Flags, iV a0.Age, .slice A1 n1 c1, .slice A2 n2 c2]] ([av A1 n1 c1 a0.Slots, av A2 n2 c2 a0.More]) (fun u post => ∃ A0 n0 c0, u = .slice A0 n0 c0 ∧ post = [br A0 n0 c0 r]) := by
 refine bN Tryz.func153 rfl rfl ?_
 simp only [bc]
 refine run ?_
 refine gD (bo rfl rfl) ?_
 rintro _ _ ⟨B3, rfl, rfl⟩
 refine run ?_
 refine aB ?_
 refine dB (by kernel_rfl) _ (ab _) ?_
 refine bv 0 rfl (by kernel_rfl) (aC (us := [iV a0.Kind, iV a0.Shape, iV a0.Flags, iV a0.Age, .slice A1 n1 c1, .slice A2 n2 c2]) 0 rfl rfl bu rfl) rfl rfl ?_
 refine bv 2 rfl (by kernel_rfl) (aC (us := [iV a0.Kind, iV a0.Shape, iV a0.Flags, iV a0.Age, .slice A1 n1 c1, .slice A2 n2 c2]) 0 rfl rfl bu rfl) rfl rfl ?_
 obtain ⟨y4, hy4, h⟩ := aa h
 refine gt 1 rfl (by kernel_rfl) (am (fE hy4) sm rfl (mem_cons (aj (i := 1) rfl rfl) (mem_cons (aj (i := 2) rfl rfl) ae)) ef) rfl rfl rfl ?_
 rintro _ _ ⟨_, ⟨A5, n5, c5, rfl, rfl⟩, rfl⟩
 refine ⟨[ag B3 32 [iV a0.Kind, iV a0.Shape, iV a0.Flags, iV a0.Age, .slice A1 n1 c1, .slice A2 n2 c2], av A1 n1 c1 a0.Slots, av A2 n2 c2 a0.More], ad [1, 2, 3] 4 rfl rfl, ab _, ?_⟩
 obtain ⟨y6, hy6, h⟩ := aa h
 refine gt 3 rfl (by kernel_rfl) (am (jU hy6) zP rfl (mem_cons (aj (i := 2) rfl rfl) (mem_cons (aj (i := 3) rfl rfl) ae)) iF) rfl rfl rfl ?_
 rintro _ _ ⟨_, ⟨A7, n7, c7, rfl, rfl⟩, rfl⟩
 refine ⟨[ag B3 32 [iV a0.Kind, iV a0.Shape, iV a0.Flags, iV a0.Age, .slice A1 n1 c1, .slice A2 n2 c2], av A1 n1 c1 a0.Slots, av A2 n2 c2 a0.More], ad [2, 3, 4] 5 rfl rfl, ab _, ?_⟩
 obtain ⟨q8, h⟩ := ap h
 refine gt 4 rfl (by kernel_rfl) (bF 1 0 rfl rfl aH rfl rfl Tryz.underlying35 Ac rfl rfl q8) rfl rfl rfl ?_
 rintro _ _ ⟨A9, n9, c9, rfl, rfl⟩
 refine ⟨[ag B3 32 [iV a0.Kind, iV a0.Shape, iV a0.Flags, iV a0.Age, .slice A1 n1 c1, .slice A2 n2 c2], av A1 n1 c1 a0.Slots, av A2 n2 c2 a0.More], ad [2, 3, 4] 5 rfl rfl, ab _, ?_⟩
 refine fF ([br A7 n7 c7 y6, br A9 n9 c9 (y4 ++ y6), ag B3 32 [iV a0.Kind, iV a0.Shape, iV a0.Flags, iV a0.Age, .slice A1 n1 c1, .slice A2 n2 c2], av A1 n1 c1 a0.Slots, av A2 n2 c2 a0.More]) rfl ?_
 refine aI 5 rfl (by kernel_rfl) (bw rfl) rfl rfl ?_
 refine dA (by kernel_rfl) ?_
 refine run ?_
 obtain rfl := aq h
 exact aQ rfl rfl (ad [1] 5 rfl rfl) ⟨_, _, _, rfl, rfl⟩
theorem ld {r : (List Int)} : ∀ v post, ((fun (u : Value) (post : List Chunk) => ∃ A0 n0 c0, u = .slice A0 n0 c0 ∧ post = [br A0 n0 c0 r])) v post → ∀ c ∈ post, cZ c := by
 rintro _ _ ⟨_, _, _, rfl, rfl⟩; exact mem_cons bS (ae)
def kr (N : Nat) (a0 : Int) (a1 : DMemory) : Option Bool :=
 (dx N a1 a0).bind fun y4 => some (!y4)
theorem tf {N : Nat} {a0 : Int} {a1 : DMemory} {r : Bool} (h : kr N a0 a1 = some r) : Okc Tryz.prog 188 [iV a0, pV B1 0] ([bU B1 24 [.slice A2 n2 c2, .slice A3 n3 c3], aF A2 n2 c2 a1.Young, aF A3 n3 c3 a1.Old]) (fun u post => u = .bool r ∧ post = []) := by
 refine bN Tryz.func188 rfl rfl ?_
 simp only [bc]
 refine run ?_
 refine gR (om (us := [.slice A2 n2 c2, .slice A3 n3 c3]) 0 rfl rfl cN rfl) ?_
 refine run ?_
 obtain ⟨y4, hy4, h⟩ := aa h
 refine gD (am (dM hy4) nW rfl (mem_cons (aj (i := 1) rfl rfl) (mem_cons (aj (i := 2) rfl rfl) ae)) dh) ?_
 rintro _ _ ⟨_, ⟨rfl, rfl⟩, rfl⟩
 refine run ?_
 obtain rfl := aq h
 exact aQ rfl rfl (ad [] 3 rfl rfl) ⟨rfl, rfl⟩
def pW (N : Nat) : Option Bool :=
 some true
def minor_sound_l8 (N : Nat) (y6 : ((List DCell))) (a0 : DMemory) : Nat → Int → Option Bool
 | 0, _ => none
 | m8 + 1, p9 => bif decide (p9 < (y6.length : Int)) then ((aG y6 p9).bind fun x11 => (dP N x11).bind fun y15 => (bif !y15 then (some true) else ((fh N x11).bind fun y17 => (bi N y17 (fun x => kr N x a0)).bind fun y19 => some y19)).bind fun b16 => bif b16 then (some false) else (bM (in64 (p9 + 1)) ((minor_sound_l8 N y6 a0 m8) (p9 + 1)))) else (pW N)
def kK (N : Nat) (a0 : DMemory) : Option Bool :=
 (eY N a0.Young a0.Old).bind fun y6 => minor_sound_l8 N y6 a0 N 0
theorem wP {N : Nat} {a0 : DMemory} {r : Bool} (h : kK N a0 = some r) : Okc Tryz.prog 152 [.agg #[.slice A1 n1 c1, .slice A2 n2 c2]] ([aF A1 n1 c1 a0.Young, aF A2 n2 c2 a0.Old]) (fun u post => u = .bool r ∧ post = []) := by
 refine bN Tryz.func152 rfl rfl ?_
 simp only [bc]
 refine run ?_
 refine gD (bo rfl rfl) ?_
 rintro _ _ ⟨B3, rfl, rfl⟩
 refine run ?_
 refine aS (fun s L => pW N = some r ∧ s = [(2, .bool false)] ∧ L = []) ?_ ?_
 ·refine run ?_
  refine gD (r8 (cs := [.slice A1 n1 c1, .slice A2 n2 c2]) rfl (xr _ _ _ _ _ _)) ?_
  rintro _ _ ⟨B5, rfl, rfl⟩
  obtain ⟨y6, hy6, h⟩ := aa h
  refine pv (fO 0 rfl) ?_
  refine gD (bH (po hy6) GJ rfl (be [0, 2, 3] [] [0, 1, 2, 3] 4 rfl)) ?_
  rintro _ _ ⟨_, ⟨A7, n7, c7, rfl, rfl⟩, rfl⟩
  refine gR (aL 0 rfl aH rfl Tryz.underlying22) ?_
  refine run ?_
  refine bp (fun m s L => ∃ p9, minor_sound_l8 N y6 a0 m p9 = some r ∧ s = [(1, pV B3 0), (2, .bool false), (10, .slice A7 n7 c7), (11, iV (y6.length : Int)), (12, iV p9)] ∧ L = [cz A7 n7 c7 y6, aF A1 n1 c1 a0.Young, aF A2 n2 c2 a0.Old, ag B3 24 [.slice A1 n1 c1, .slice A2 n2 c2]]) N _ _ ⟨0, h, rfl, rfl⟩ sA (ad [0, 3, 4, 2] 5 rfl rfl) ?_
  rintro (_ | m8) _ _ ⟨p9, h, rfl, rfl⟩
  ·exact aD h
  rw [minor_sound_l8.eq_2] at h
  refine run ?_
  refine aB ?_
  refine ay rfl (fun g10 => ?_) (fun g10 => ?_)
  ·replace h := ah g10 h
   refine run ?_
   refine aB ?_
   refine run ?_
   obtain ⟨x11, hx11, h⟩ := aa h
   obtain ⟨lx11, ux11, hx11⟩ := au hx11
   refine gR (aM 0 rfl aH rfl rfl Tryz.underlying22 bz lx11 ux11) ?_
   refine gD (Az 0 rfl aH rfl hx11 bu rfl (db x11)) ?_
   rintro u _ ⟨_, _, ⟨A12, n12, c12, A13, n13, c13, rfl, rfl⟩, hu, rfl⟩
   obtain rfl : u = .agg #[iV x11.Kind, iV x11.Shape, iV x11.Flags, iV x11.Age, .slice A12 n12 c12, .slice A13 n13 c13] := hu
   refine gD (aJ dR rfl) ?_
   rintro _ _ ⟨B14, rfl, rfl⟩
   refine gO (ar (us := [iV x11.Kind, iV x11.Shape, iV x11.Flags, iV x11.Age, .slice A12 n12 c12, .slice A13 n13 c13]) (cs' := [iV x11.Kind, iV x11.Shape, iV x11.Flags, iV x11.Age, .slice A12 n12 c12, .slice A13 n13 c13]) 0 rfl rfl rfl rfl bz rfl rfl rfl) ?_
   rintro _ _ rfl
   refine bC ([ag B14 32 [iV x11.Kind, iV x11.Shape, iV x11.Flags, iV x11.Age, .slice A12 n12 c12, .slice A13 n13 c13], av A12 n12 c12 x11.Slots, av A13 n13 c13 x11.More, cz A7 n7 c7 y6, aF A1 n1 c1 a0.Young, aF A2 n2 c2 a0.Old, ag B3 24 [.slice A1 n1 c1, .slice A2 n2 c2]]) rfl ?_
   refine run ?_
   refine gR (aC (us := [iV x11.Kind, iV x11.Shape, iV x11.Flags, iV x11.Age, .slice A12 n12 c12, .slice A13 n13 c13]) 0 rfl rfl bu rfl) ?_
   obtain ⟨y15, hy15, h⟩ := aa h
   refine gD (am (fD hy15) sq rfl (mem_cons (aj (i := 1) rfl rfl) (mem_cons (aj (i := 2) rfl rfl) ae)) ee) ?_
   rintro _ _ ⟨_, ⟨rfl, rfl⟩, rfl⟩
   refine run ?_
   obtain ⟨b16, hb16, h⟩ := aa h
   refine aX 5 24 b16 ?_ ?_
   ·clear h
    refine aY 19 rfl (fun g16 => ?_) (fun g16 => ?_)
    ·have h := ah g16 hb16
     refine run ?_
     obtain rfl := aq h
     exact ak sA (ad [0, 1, 2, 3, 4, 5, 6] 7 rfl rfl)
    have h := ai g16 hb16
    refine cY (aC (us := [iV x11.Kind, iV x11.Shape, iV x11.Flags, iV x11.Age, .slice A12 n12 c12, .slice A13 n13 c13]) 0 rfl rfl bu rfl) rfl (gm g16 rfl) rfl ?_
    obtain ⟨y17, hy17, h⟩ := aa h
    refine dj (am (my hy17) Dc rfl (mem_cons (aj (i := 1) rfl rfl) (mem_cons (aj (i := 2) rfl rfl) ae)) ld) rfl (gm g16 rfl) rfl ?_
    rintro _ _ ⟨_, ⟨A18, n18, c18, rfl, rfl⟩, rfl⟩
    refine ri (dU rfl) rfl (gm g16 rfl) rfl ?_
    obtain ⟨y19, hy19, h⟩ := aa h
    refine dj (am (cC hy19 ⟨mem_cons rfl (mem_cons rfl (mem_cons rfl ae)), 188, #[], #[pV B3 0], rfl, GI, fun _ _ hh => tf hh⟩) so rfl (mem_cons (aK (i := 0) rfl) (mem_cons (fm (i := 7) rfl) (mem_cons (aj (i := 5) rfl rfl) (mem_cons (aj (i := 6) rfl rfl) ae)))) cn) rfl (gm g16 rfl) rfl ?_
    rintro _ _ ⟨_, ⟨rfl, rfl⟩, rfl⟩
    refine run ?_
    obtain rfl := aq h
    exact ak sA (ad [1, 2, 3, 4, 5, 6, 7] 8 rfl rfl)
   refine run ?_
   refine ay rfl (fun g20 => ?_) (fun g20 => ?_)
   ·replace h := ah g20 h
    refine run ?_
    obtain rfl := aq h
    exact aQ rfl rfl (ad [] 7 rfl rfl) ⟨rfl, rfl⟩
   replace h := ai g20 h
   refine run ?_
   obtain ⟨q21, h⟩ := ap h
   refine gE (aR rfl rfl q21.1 q21.2) ?_
   refine run ?_
   exact ⟨m8, _, _, Nat.lt_succ_self _, ⟨p9 + 1, h, rfl, rfl⟩, sA, ad [3, 4, 5, 6] 7 rfl rfl⟩
  replace h := ai g10 h
  refine run ?_
  exact ⟨_, _, ⟨h, rfl, rfl⟩, sA, ad [] 4 rfl rfl⟩
 rintro _ _ ⟨h, rfl, rfl⟩
 refine run ?_
 obtain rfl := aq h
 exact aQ rfl rfl (ad [] 0 rfl rfl) ⟨rfl, rfl⟩
theorem ug {r : Bool} : ∀ v post, ((fun (u : Value) (post : List Chunk) => u = .bool r ∧ post = [])) v post → ∀ c ∈ post, cZ c := by
 rintro _ _ ⟨rfl, rfl⟩; exact ae
def ep (N : Nat) (a0 : Int) : Option Bool :=
 (bif decide (0 < a0) then (some (decide (a0.tmod 2 = 1))) else (some false)).bind fun b1 => some b1
theorem ig {N : Nat} {a0 : Int} {r : Bool} (h : ep N a0 = some r) : Okc Tryz.prog 105 [iV a0] ([]) (fun u post => u = .bool r ∧ post = []) := by
 refine bN Tryz.func105 rfl rfl ?_
 simp only [bc]
 refine run ?_
 obtain ⟨b1, hb1, h⟩ := aa h
 refine aX 4 9 b1 ?_ ?_
 ·clear h
  refine aY 5 rfl (fun g1 => ?_) (fun g1 => ?_)
  ·have h := ah g1 hb1
   refine run ?_
   refine ri (sc rfl rfl (by decide)) rfl (bd g1 rfl) rfl ?_
   refine run ?_
   obtain rfl := aq h
   exact ak sA (ad [] 0 rfl rfl)
  have h := ai g1 hb1
  refine run ?_
  obtain rfl := aq h
  exact ak sA (ad [] 0 rfl rfl)
 refine run ?_
 obtain rfl := aq h
 exact aQ rfl rfl (ad [] 0 rfl rfl) ⟨rfl, rfl⟩
theorem iA {r : Bool} : ∀ v post, ((fun (u : Value) (post : List Chunk) => u = .bool r ∧ post = [])) v post → ∀ c ∈ post, cZ c := by
 rintro _ _ ⟨rfl, rfl⟩; exact ae
end Go.Proofs.YtmbaennilhdieaaGreat