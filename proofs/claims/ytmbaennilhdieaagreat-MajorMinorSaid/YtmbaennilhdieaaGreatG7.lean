/- Merged texts: part 7. No conditions of their own. -/
import Derived.Test.YtmbaennilhdieaaGreatG6
import Derived.Test.YtmbaennilhdieaaGreatG1
namespace Go.Proofs.YtmbaennilhdieaaGreat
variable {A1 A2 A3 A4 A5 : Option Addr} {B1 M2 M6 c1 c2 c3 c4 c5 n1 n2 n3 n4 n5 : Nat}
open Go.RowKit Asn
set_option maxRecDepth 20000
def rJ (N : Nat) : Option Bool :=
 some true
def minor_may_l25 (N : Nat) (a0 : DMemory) (a2 : (List Int)) : Nat → Int → Option Bool
 | 0, _ => none
 | m25 + 1, p26 => bif decide (p26 < (a0.Old.length : Int)) then ((aG a0.Old p26).bind fun x28 => (fh N x28).bind fun y33 => (bi N y33 (fun x => ep N x)).bind fun y35 => (bif y35 then (bM (in64 (2 * p26)) (bM (in64 ((2 * p26) + 2)) ((dt N a2 ((2 * p26) + 2)).bind fun y39 => some (!y39)))) else (some false)).bind fun b36 => bif b36 then (some false) else (bM (in64 (p26 + 1)) ((minor_may_l25 N a0 a2 m25) (p26 + 1)))) else (rJ N)
def gJ (N : Nat) (a2 : (List Int)) (a0 : DMemory) : Option Bool :=
 minor_may_l25 N a0 a2 N 0
def minor_may_l11 (N : Nat) (a2 : (List Int)) (a0 : DMemory) : Nat → Int → Option Bool
 | 0, _ => none
 | m11 + 1, p12 => bif decide (p12 < (a2.length : Int)) then ((aG a2 p12).bind fun x14 => (ep N x14).bind fun y15 => (bif y15 then (some true) else ((dx N a0 x14).bind fun y17 => some (!y17))).bind fun b16 => (bif b16 then (some true) else ((bif decide (0 < p12) then (bM (in64 (p12 - 1)) ((aG a2 (p12 - 1)).bind fun x21 => some (decide (x14 ≤ x21)))) else (some false)).bind fun b19 => some b19)).bind fun b18 => bif b18 then (some false) else (bM (in64 (p12 + 1)) ((minor_may_l11 N a2 a0 m11) (p12 + 1)))) else (gJ N a2 a0)
def nv (N : Nat) (a0 : DMemory) (a1 : (List DValue)) (a2 : (List Int)) : Option Bool :=
 (cM N a1 (fun x => jI N x a0)).bind fun y6 => (bif y6 then (some true) else ((kK N a0).bind fun y8 => some (!y8))).bind fun b7 => bif b7 then (some false) else (minor_may_l11 N a2 a0 N 0)
theorem zt {N : Nat} {a0 : DMemory} {a1 : (List DValue)} {a2 : (List Int)} {r : Bool} (h : nv N a0 a1 a2 = some r) : Okc Tryz.prog 95 [.agg #[.slice A1 n1 c1, .slice A2 n2 c2], .slice A3 n3 c3, .slice A4 n4 c4] ([aF A1 n1 c1 a0.Young, aF A2 n2 c2 a0.Old, av A3 n3 c3 a1, cm A4 n4 c4 a2]) (fun u post => u = .bool r ∧ post = []) := by
 refine bN Tryz.func95 rfl rfl ?_
 simp only [bc]
 refine run ?_
 refine gD (bo rfl rfl) ?_
 rintro _ _ ⟨B5, rfl, rfl⟩
 refine run ?_
 refine gE (dU rfl) ?_
 refine run ?_
 refine aB ?_
 refine run ?_
 obtain ⟨y6, hy6, h⟩ := aa h
 refine gD (am (ls hy6 ⟨mem_cons rfl (mem_cons rfl (mem_cons rfl ae)), 149, #[], #[pV B5 0], rfl, GT, fun _ _ hh => vm hh⟩) GS rfl (mem_cons (aj (i := 3) rfl rfl) (mem_cons (fm (i := 0) rfl) (mem_cons (aj (i := 1) rfl rfl) (mem_cons (aj (i := 2) rfl rfl) ae)))) kd) ?_
 rintro _ _ ⟨_, ⟨rfl, rfl⟩, rfl⟩
 refine run ?_
 obtain ⟨b7, hb7, h⟩ := aa h
 refine aX 4 20 b7 ?_ ?_
 ·clear h
  refine aY 16 rfl (fun g7 => ?_) (fun g7 => ?_)
  ·have h := ah g7 hb7
   refine run ?_
   obtain rfl := aq h
   exact ak sA (ad [0, 1, 2, 3, 4] 5 rfl rfl)
  have h := ai g7 hb7
  refine cY (aC (us := [.slice A1 n1 c1, .slice A2 n2 c2]) 0 rfl rfl cN rfl) rfl (gm g7 rfl) rfl ?_
  obtain ⟨y8, hy8, h⟩ := aa h
  refine dj (am (wP hy8) GR rfl (mem_cons (aj (i := 1) rfl rfl) (mem_cons (aj (i := 2) rfl rfl) ae)) ug) rfl (gm g7 rfl) rfl ?_
  rintro _ _ ⟨_, ⟨rfl, rfl⟩, rfl⟩
  refine run ?_
  obtain rfl := aq h
  exact ak sA (ad [0, 1, 2, 3, 4] 5 rfl rfl)
 refine run ?_
 refine ay rfl (fun g9 => ?_) (fun g9 => ?_)
 ·replace h := ah g9 h
  refine run ?_
  obtain rfl := aq h
  exact aQ rfl rfl (ad [] 5 rfl rfl) ⟨rfl, rfl⟩
 replace h := ai g9 h
 refine run ?_
 refine aS (fun s L => gJ N a2 a0 = some r ∧ s = [(2, .slice A4 n4 c4), (3, pV B5 0), (6, .bool false)] ∧ L = [cm A4 n4 c4 a2, aF A1 n1 c1 a0.Young, aF A2 n2 c2 a0.Old, ag B5 24 [.slice A1 n1 c1, .slice A2 n2 c2]]) ?_ ?_
 ·refine run ?_
  refine gR (aL 4 rfl ao rfl Tryz.underlying35) ?_
  refine run ?_
  refine bp (fun m s L => ∃ p12, minor_may_l11 N a2 a0 m p12 = some r ∧ s = [(2, .slice A4 n4 c4), (3, pV B5 0), (6, .bool false), (21, .slice A4 n4 c4), (22, iV (a2.length : Int)), (23, iV p12)] ∧ L = [cm A4 n4 c4 a2, aF A1 n1 c1 a0.Young, aF A2 n2 c2 a0.Old, ag B5 24 [.slice A1 n1 c1, .slice A2 n2 c2]]) N _ _ ⟨0, h, rfl, rfl⟩ sA (ad [4, 1, 2, 0] 5 rfl rfl) ?_
  rintro (_ | m11) _ _ ⟨p12, h, rfl, rfl⟩
  ·exact aD h
  rw [minor_may_l11.eq_2] at h
  refine run ?_
  refine aB ?_
  refine ay rfl (fun g13 => ?_) (fun g13 => ?_)
  ·replace h := ah g13 h
   refine run ?_
   refine aB ?_
   refine run ?_
   obtain ⟨x14, hx14, h⟩ := aa h
   obtain ⟨lx14, ux14, hx14⟩ := au hx14
   refine gR (aM 0 rfl ao rfl rfl Tryz.underlying35 dD lx14 ux14) ?_
   refine gR (bK (u := iV x14) 0 rfl ao rfl hx14 eo (fun _ _ _ h => by rw [show _ = _ from h]; rfl)) ?_
   refine run ?_
   obtain ⟨y15, hy15, h⟩ := aa h
   refine gD (am (ig hy15) tJ rfl (ae) iA) ?_
   rintro _ _ ⟨_, ⟨rfl, rfl⟩, rfl⟩
   refine run ?_
   obtain ⟨b16, hb16, h⟩ := aa h
   refine aX 5 35 b16 ?_ ?_
   ·clear h
    refine aY 30 rfl (fun g16 => ?_) (fun g16 => ?_)
    ·have h := ah g16 hb16
     refine run ?_
     obtain rfl := aq h
     exact ak sA (ad [0, 1, 2, 3] 4 rfl rfl)
    have h := ai g16 hb16
    refine cY (aC (us := [.slice A1 n1 c1, .slice A2 n2 c2]) 3 rfl rfl cN rfl) rfl (gm g16 rfl) rfl ?_
    refine run ?_
    obtain ⟨y17, hy17, h⟩ := aa h
    refine dj (am (dM hy17) nW rfl (mem_cons (aj (i := 1) rfl rfl) (mem_cons (aj (i := 2) rfl rfl) ae)) dh) rfl (gm g16 rfl) rfl ?_
    rintro _ _ ⟨_, ⟨rfl, rfl⟩, rfl⟩
    refine run ?_
    obtain rfl := aq h
    exact ak sA (ad [0, 1, 2, 3] 4 rfl rfl)
   refine run ?_
   obtain ⟨b18, hb18, h⟩ := aa h
   refine aX 12 48 b18 ?_ ?_
   ·clear h
    refine aY 36 rfl (fun g18 => ?_) (fun g18 => ?_)
    ·have h := ah g18 hb18
     refine run ?_
     obtain rfl := aq h
     exact ak sA (ad [0, 1, 2, 3] 4 rfl rfl)
    have h := ai g18 hb18
    refine run ?_
    obtain ⟨b19, hb19, h⟩ := aa h
    refine aX 8 47 b19 ?_ ?_
    ·clear h
     refine aY 39 rfl (fun g19 => ?_) (fun g19 => ?_)
     ·have h := ah g19 hb19
      refine run ?_
      obtain ⟨q20, h⟩ := ap h
      refine ri (sb rfl rfl q20.1 q20.2) rfl (bd g19 rfl) rfl ?_
      obtain ⟨x21, hx21, h⟩ := aa h
      obtain ⟨lx21, ux21, hx21⟩ := au hx21
      refine cY (aM 0 rfl ao rfl rfl Tryz.underlying35 dD lx21 ux21) rfl (bd g19 rfl) rfl ?_
      refine cY (bK (u := iV x21) 0 rfl ao rfl hx21 eo (fun _ _ _ h => by rw [show _ = _ from h]; rfl)) rfl (bd g19 rfl) rfl ?_
      refine run ?_
      obtain rfl := aq h
      exact ak sA (ad [0, 1, 2, 3] 4 rfl rfl)
     have h := ai g19 hb19
     refine run ?_
     obtain rfl := aq h
     exact ak sA (ad [0, 1, 2, 3] 4 rfl rfl)
    refine run ?_
    obtain rfl := aq h
    exact ak sA (ad [0, 1, 2, 3] 4 rfl rfl)
   refine run ?_
   refine ay rfl (fun g22 => ?_) (fun g22 => ?_)
   ·replace h := ah g22 h
    refine run ?_
    obtain rfl := aq h
    exact aQ rfl rfl (ad [] 4 rfl rfl) ⟨rfl, rfl⟩
   replace h := ai g22 h
   refine run ?_
   obtain ⟨q23, h⟩ := ap h
   refine gE (aR rfl rfl q23.1 q23.2) ?_
   refine run ?_
   exact ⟨m11, _, _, Nat.lt_succ_self _, ⟨p12 + 1, h, rfl, rfl⟩, sA, ad [0, 1, 2, 3] 4 rfl rfl⟩
  replace h := ai g13 h
  refine run ?_
  exact ⟨_, _, ⟨h, rfl, rfl⟩, sA, ad [0, 1, 2, 3] 4 rfl rfl⟩
 rintro _ _ ⟨h, rfl, rfl⟩
 refine aS (fun s L => rJ N = some r ∧ s = [(6, .bool false)] ∧ L = []) ?_ ?_
 ·refine run ?_
  refine gR (aL 2 rfl ao rfl Tryz.underlying22) ?_
  refine run ?_
  refine bp (fun m s L => ∃ p26, minor_may_l25 N a0 a2 m p26 = some r ∧ s = [(2, .slice A4 n4 c4), (6, .bool false), (51, .slice A2 n2 c2), (52, iV (a0.Old.length : Int)), (53, iV p26)] ∧ L = [cm A4 n4 c4 a2, aF A2 n2 c2 a0.Old]) N _ _ ⟨0, h, rfl, rfl⟩ sA (ad [0, 2] 4 rfl rfl) ?_
  rintro (_ | m25) _ _ ⟨p26, h, rfl, rfl⟩
  ·exact aD h
  rw [minor_may_l25.eq_2] at h
  refine run ?_
  refine aB ?_
  refine ay rfl (fun g27 => ?_) (fun g27 => ?_)
  ·replace h := ah g27 h
   refine run ?_
   refine aB ?_
   refine run ?_
   obtain ⟨x28, hx28, h⟩ := aa h
   obtain ⟨lx28, ux28, hx28⟩ := au hx28
   refine gR (aM 1 rfl ao rfl rfl Tryz.underlying22 bz lx28 ux28) ?_
   refine va 1 rfl hx28 (db x28) ?_
   rintro _ _ ⟨A29, n29, c29, A30, n30, c30, rfl, rfl⟩
   refine gR (nm (us := [iV x28.Kind, iV x28.Shape, iV x28.Flags, iV x28.Age, .slice A29 n29 c29, .slice A30 n30 c30]) 0 rfl rfl bu rfl) ?_
   refine gD (aJ dR rfl) ?_
   rintro _ _ ⟨B32, rfl, rfl⟩
   refine run ?_
   refine gO (ar (us := [iV x28.Kind, iV x28.Shape, iV x28.Flags, iV x28.Age, .slice A29 n29 c29, .slice A30 n30 c30]) (cs' := [iV x28.Kind, iV x28.Shape, iV x28.Flags, iV x28.Age, .slice A29 n29 c29, .slice A30 n30 c30]) 0 rfl rfl rfl rfl bz rfl rfl rfl) ?_
   rintro _ _ rfl
   refine run ?_
   refine gR (aC (us := [iV x28.Kind, iV x28.Shape, iV x28.Flags, iV x28.Age, .slice A29 n29 c29, .slice A30 n30 c30]) 0 rfl rfl bu rfl) ?_
   obtain ⟨y33, hy33, h⟩ := aa h
   refine gD (am (my hy33) Dc rfl (mem_cons (aj (i := 2) rfl rfl) (mem_cons (aj (i := 3) rfl rfl) ae)) ld) ?_
   rintro _ _ ⟨_, ⟨A34, n34, c34, rfl, rfl⟩, rfl⟩
   obtain ⟨y35, hy35, h⟩ := aa h
   refine gD (am (cC hy35 ⟨ae, 105, #[], #[], rfl, tJ, fun _ _ hh => ig hh⟩) so rfl (mem_cons (aK (i := 0) rfl) ae) cn) ?_
   rintro _ _ ⟨_, ⟨rfl, rfl⟩, rfl⟩
   refine run ?_
   obtain ⟨b36, hb36, h⟩ := aa h
   refine aX 7 68 b36 ?_ ?_
   ·clear h
    refine aY 61 rfl (fun g36 => ?_) (fun g36 => ?_)
    ·have h := ah g36 hb36
     refine run ?_
     obtain ⟨q37, h⟩ := ap h
     refine ri (qh rfl rfl q37.1 q37.2) rfl (bd g36 rfl) rfl ?_
     obtain ⟨q38, h⟩ := ap h
     refine ri (aR rfl rfl q38.1 q38.2) rfl (bd g36 rfl) rfl ?_
     obtain ⟨y39, hy39, h⟩ := aa h
     refine dj (am (gb hy39) vI rfl (mem_cons (aj (i := 5) rfl rfl) ae) eX) rfl (bd g36 rfl) rfl ?_
     rintro _ _ ⟨_, ⟨rfl, rfl⟩, rfl⟩
     refine run ?_
     obtain rfl := aq h
     exact ak sA (ad [0, 1, 2, 3, 4, 5, 6] 7 rfl rfl)
    have h := ai g36 hb36
    refine run ?_
    obtain rfl := aq h
    exact ak sA (ad [0, 1, 2, 3, 4, 5, 6] 7 rfl rfl)
   refine run ?_
   refine ay rfl (fun g40 => ?_) (fun g40 => ?_)
   ·replace h := ah g40 h
    refine run ?_
    obtain rfl := aq h
    exact aQ rfl rfl (ad [] 7 rfl rfl) ⟨rfl, rfl⟩
   replace h := ai g40 h
   refine run ?_
   obtain ⟨q41, h⟩ := ap h
   refine gE (aR rfl rfl q41.1 q41.2) ?_
   refine run ?_
   exact ⟨m25, _, _, Nat.lt_succ_self _, ⟨p26 + 1, h, rfl, rfl⟩, sA, ad [5, 6] 7 rfl rfl⟩
  replace h := ai g27 h
  refine run ?_
  exact ⟨_, _, ⟨h, rfl, rfl⟩, sA, ad [] 2 rfl rfl⟩
 rintro _ _ ⟨h, rfl, rfl⟩
 refine run ?_
 obtain rfl := aq h
 exact aQ rfl rfl (ad [] 0 rfl rfl) ⟨rfl, rfl⟩
theorem wQ {r : Bool} : ∀ v post, ((fun (u : Value) (post : List Chunk) => u = .bool r ∧ post = [])) v post → ∀ c ∈ post, cZ c := by
 rintro _ _ ⟨rfl, rfl⟩; exact ae
def bY (N : Nat) (a0 : DMeeter) (a1 : Int) : Option DMeeter :=
 (ep N a1).bind fun y7 => (bif y7 then (some (!((lk a0.seen_ a1).getD false))) else (some false)).bind fun b8 => bif b8 then (bM (cD (a0.met_.length + ([a1] : List Int).length)) (some (⟨a0.m_, a0.kept_, a0.met_ ++ ([a1] : List Int), na a0.seen_ a1 true, a0.next_⟩ : DMeeter))) else (some a0)
theorem fg {N : Nat} {a0 : DMeeter} {a1 : Int} {r : DMeeter} (h : bY N a0 a1 = some r) : Okc Tryz.prog 154 [pV B1 0, iV a1] ([aF A2 n2 c2 a0.m_.Young, aF A3 n3 c3 a0.m_.Old, cm A4 n4 c4 a0.kept_, ag B1 109 [.slice A2 n2 c2, .slice A3 n3 c3, .slice A4 n4 c4, .slice A5 n5 c5, .map (some M6), iV a0.next_], br A5 n5 c5 a0.met_, aN bQ eT M6 a0.seen_]) (fun u post => ∃ A0 n0 c0 A1 n1 c1 A2 n2 c2 A3 n3 c3 M4, u = .tuple #[] ∧ post = [ag B1 109 [.slice A0 n0 c0, .slice A1 n1 c1, .slice A2 n2 c2, .slice A3 n3 c3, .map (some M4), iV r.next_], aF A0 n0 c0 r.m_.Young, aF A1 n1 c1 r.m_.Old, cm A2 n2 c2 r.kept_, br A3 n3 c3 r.met_, aN bQ eT M4 r.seen_]) := by
 refine bN Tryz.func154 rfl rfl ?_
 simp only [bc]
 refine run ?_
 obtain ⟨y7, hy7, h⟩ := aa h
 refine gD (am (ig hy7) tJ rfl (ae) iA) ?_
 rintro _ _ ⟨_, ⟨rfl, rfl⟩, rfl⟩
 refine run ?_
 obtain ⟨b8, hb8, h⟩ := aa h
 refine aX 8 14 b8 ?_ ?_
 ·clear h
  refine aY 6 rfl (fun g8 => ?_) (fun g8 => ?_)
  ·have h := ah g8 hb8
   refine run ?_
   refine cY (wq (a := a1) (z := false) 5 rfl qb rfl rfl Tryz.underlying107 (cB Tryz.underlying3) Ae) rfl (bd g8 rfl) rfl ?_
   refine run ?_
   obtain rfl := aq h
   exact ak sA (ad [0, 1, 2, 3, 4, 5] 6 rfl rfl)
  have h := ai g8 hb8
  refine run ?_
  obtain rfl := aq h
  exact ak sA (ad [0, 1, 2, 3, 4, 5] 6 rfl rfl)
 refine run ?_
 refine ay rfl (fun g9 => ?_) (fun g9 => ?_)
 ·replace h := ah g9 h
  refine run ?_
  refine gO (fd (a := a1) (b := true) 5 rfl rfl rfl rfl Tryz.underlying107 (cB Tryz.underlying3)) ?_
  rintro _ _ rfl
  refine run ?_
  refine gD (bm (R := (dS .i64)) (vss := [[iV a1]]) (xs := [a1]) rfl (gG _) rfl rfl (fun _ _ hr => .cons rfl All2.nil)) ?_
  rintro _ _ ⟨A10, n10, c10, rfl, rfl⟩
  obtain ⟨q11, h⟩ := ap h
  refine gD (bF 5 0 rfl rfl aH rfl rfl Tryz.underlying35 Ac rfl rfl q11) ?_
  rintro _ _ ⟨A12, n12, c12, rfl, rfl⟩
  refine run ?_
  refine gO (ar (us := [.slice A12 n12 c12]) (cs' := [.slice A2 n2 c2, .slice A3 n3 c3, .slice A4 n4 c4, .slice A12 n12 c12, .map (some M6), iV a0.next_]) 4 rfl rfl rfl rfl iK rfl rfl rfl) ?_
  rintro _ _ rfl
  refine bC ([br A10 n10 c10 ([a1] : List Int), aF A2 n2 c2 a0.m_.Young, aF A3 n3 c3 a0.m_.Old, cm A4 n4 c4 a0.kept_, ag B1 109 [.slice A2 n2 c2, .slice A3 n3 c3, .slice A4 n4 c4, .slice A12 n12 c12, .map (some M6), iV a0.next_], br A12 n12 c12 (a0.met_ ++ ([a1] : List Int)), aN bQ eT M6 (na a0.seen_ a1 true)]) rfl ?_
  refine nH ?_
  obtain rfl := aq h
  exact jo rfl (ad [4, 1, 2, 3, 5, 6] 7 rfl rfl) ⟨_, _, _, _, _, _, _, _, _, _, _, _, _, rfl, rfl⟩
 replace h := ai g9 h
 refine Ab ?_
 obtain rfl := aq h
 exact jo rfl (ad [3, 0, 1, 2, 4, 5] 6 rfl rfl) ⟨_, _, _, _, _, _, _, _, _, _, _, _, _, rfl, rfl⟩
def bP (N : Nat) (a0 : DMeeter) (a1 : Int) : Option DCell :=
 (ep N a1).bind fun y8 => bif y8 then (bM (in64 (a1.tdiv 2)) ((aG a0.m_.Young (a1.tdiv 2)).bind fun x11 => some x11)) else (bM (in64 (a1.tdiv 2)) (bM (in64 ((a1.tdiv 2) - 1)) ((aG a0.m_.Old ((a1.tdiv 2) - 1)).bind fun x17 => some x17)))
theorem dT {N : Nat} {a0 : DMeeter} {a1 : Int} {r : DCell} (h : bP N a0 a1 = some r) : Okc Tryz.prog 104 [pV B1 0, iV a1] ([aF A2 n2 c2 a0.m_.Young, aF A3 n3 c3 a0.m_.Old, cm A4 n4 c4 a0.kept_, ag B1 109 [.slice A2 n2 c2, .slice A3 n3 c3, .slice A4 n4 c4, .slice A5 n5 c5, .map (some M6), iV a0.next_], br A5 n5 c5 a0.met_, aN bQ eT M6 a0.seen_]) (fun u post => ∃ A0 n0 c0 A1 n1 c1, u = .agg #[iV r.Kind, iV r.Shape, iV r.Flags, iV r.Age, .slice A0 n0 c0, .slice A1 n1 c1] ∧ post = [av A0 n0 c0 r.Slots, av A1 n1 c1 r.More, ag B1 109 [.slice A2 n2 c2, .slice A3 n3 c3, .slice A4 n4 c4, .slice A5 n5 c5, .map (some M6), iV a0.next_], br A5 n5 c5 a0.met_, aN bQ eT M6 a0.seen_]) := by
 refine bN Tryz.func104 rfl rfl ?_
 simp only [bc]
 refine run ?_
 refine gD (aJ dR rfl) ?_
 rintro _ _ ⟨B7, rfl, rfl⟩
 refine run ?_
 refine aB ?_
 refine run ?_
 obtain ⟨y8, hy8, h⟩ := aa h
 refine gD (am (ig hy8) tJ rfl (ae) iA) ?_
 rintro _ _ ⟨_, ⟨rfl, rfl⟩, rfl⟩
 refine run ?_
 refine ay rfl (fun g9 => ?_) (fun g9 => ?_)
 ·replace h := ah g9 h
  refine run ?_
  obtain ⟨q10, h⟩ := ap h
  refine gE (zH rfl rfl (by decide) q10.1 q10.2) ?_
  obtain ⟨x11, hx11, h⟩ := aa h
  obtain ⟨lx11, ux11, hx11⟩ := au hx11
  refine gR (aM 1 rfl ao rfl rfl Tryz.underlying22 bz lx11 ux11) ?_
  refine va 1 rfl hx11 (db x11) ?_
  rintro _ _ ⟨A12, n12, c12, A13, n13, c13, rfl, rfl⟩
  refine gR (nm (us := [iV x11.Kind, iV x11.Shape, iV x11.Flags, iV x11.Age, .slice A12 n12 c12, .slice A13 n13 c13]) 0 rfl rfl bu rfl) ?_
  refine gO (ar (us := [iV x11.Kind, iV x11.Shape, iV x11.Flags, iV x11.Age, .slice A12 n12 c12, .slice A13 n13 c13]) (cs' := [iV x11.Kind, iV x11.Shape, iV x11.Flags, iV x11.Age, .slice A12 n12 c12, .slice A13 n13 c13]) 3 rfl rfl rfl rfl bz rfl rfl rfl) ?_
  rintro _ _ rfl
  refine run ?_
  obtain rfl := aq h
  exact eP (rs := [.cell 4 32]) (vs := [.agg #[iV x11.Kind, iV x11.Shape, iV x11.Flags, iV x11.Age, .slice A12 n12 c12, .slice A13 n13 c13]]) rfl (.cons (dn 3 rfl rfl bu) .nil) rfl (ad [1, 2, 7, 8, 9] 10 rfl rfl) ⟨_, _, _, _, _, _, rfl, rfl⟩
 replace h := ai g9 h
 refine run ?_
 obtain ⟨q15, h⟩ := ap h
 refine gE (zH rfl rfl (by decide) q15.1 q15.2) ?_
 obtain ⟨q16, h⟩ := ap h
 refine gE (sb rfl rfl q16.1 q16.2) ?_
 obtain ⟨x17, hx17, h⟩ := aa h
 obtain ⟨lx17, ux17, hx17⟩ := au hx17
 refine gR (aM 2 rfl ao rfl rfl Tryz.underlying22 bz lx17 ux17) ?_
 refine va 2 rfl hx17 (db x17) ?_
 rintro _ _ ⟨A18, n18, c18, A19, n19, c19, rfl, rfl⟩
 refine gR (nm (us := [iV x17.Kind, iV x17.Shape, iV x17.Flags, iV x17.Age, .slice A18 n18 c18, .slice A19 n19 c19]) 0 rfl rfl bu rfl) ?_
 refine gO (ar (us := [iV x17.Kind, iV x17.Shape, iV x17.Flags, iV x17.Age, .slice A18 n18 c18, .slice A19 n19 c19]) (cs' := [iV x17.Kind, iV x17.Shape, iV x17.Flags, iV x17.Age, .slice A18 n18 c18, .slice A19 n19 c19]) 3 rfl rfl rfl rfl bz rfl rfl rfl) ?_
 rintro _ _ rfl
 refine run ?_
 obtain rfl := aq h
 exact eP (rs := [.cell 4 32]) (vs := [.agg #[iV x17.Kind, iV x17.Shape, iV x17.Flags, iV x17.Age, .slice A18 n18 c18, .slice A19 n19 c19]]) rfl (.cons (dn 3 rfl rfl bu) .nil) rfl (ad [1, 2, 7, 8, 9] 10 rfl rfl) ⟨_, _, _, _, _, _, rfl, rfl⟩
def dN (N : Nat) (kb7 : (List DCell) → (List DCell) → (List Int) → (List Int) → (List (Int × Bool)) → Int → Option DMeeter) (p16 : (List DCell)) (p17 : (List DCell)) (p18 : (List Int)) (p19 : (List Int)) (p20 : (List (Int × Bool))) (p21 : Int) : Option DMeeter :=
 bM (in64 (p21 + 1)) (kb7 p16 p17 p18 p19 p20 (p21 + 1))
def minor_meeter_through_l31 (N : Nat) (kb7 : (List DCell) → (List DCell) → (List Int) → (List Int) → (List (Int × Bool)) → Int → Option DMeeter) (y28 : ((List Int))) : Nat → Int → (List DCell) → (List DCell) → (List Int) → (List Int) → (List (Int × Bool)) → Int → Option DMeeter
 | 0, _, _, _, _, _, _, _ => none
 | m31 + 1, p32, p33, p34, p35, p36, p37, p38 => bif decide (p32 < (y28.length : Int)) then ((aG y28 p32).bind fun x40 => (bY N (⟨(⟨p33, p34⟩ : DMemory), p35, p36, p37, p38⟩ : DMeeter) x40).bind fun y41 => bM (in64 (p32 + 1)) ((minor_meeter_through_l31 N kb7 y28 m31) (p32 + 1) y41.m_.Young y41.m_.Old y41.kept_ y41.met_ y41.seen_ y41.next_)) else (dN N kb7 p33 p34 p35 p36 p37 p38)
def minor_meeter_through_l7 (N : Nat) : Nat → (List DCell) → (List DCell) → (List Int) → (List Int) → (List (Int × Bool)) → Int → Option DMeeter
 | 0, _, _, _, _, _, _ => none
 | m7 + 1, p8, p9, p10, p11, p12, p13 => bif decide (p13 < (p11.length : Int)) then ((aG p11 p13).bind fun x22 => (bP N (⟨(⟨p8, p9⟩ : DMemory), p10, p11, p12, p13⟩ : DMeeter) x22).bind fun y23 => (dQ N y23).bind fun y28 => minor_meeter_through_l31 N (minor_meeter_through_l7 N m7) y28 N 0 p8 p9 p10 p11 p12 p13) else (some (⟨(⟨p8, p9⟩ : DMemory), p10, p11, p12, p13⟩ : DMeeter))
def du (N : Nat) (a0 : DMeeter) : Option DMeeter :=
 minor_meeter_through_l7 N N a0.m_.Young a0.m_.Old a0.kept_ a0.met_ a0.seen_ a0.next_
theorem ju {N : Nat} {a0 : DMeeter} {r : DMeeter} (h : du N a0 = some r) : Okc Tryz.prog 155 [pV B1 0] ([aF A2 n2 c2 a0.m_.Young, aF A3 n3 c3 a0.m_.Old, cm A4 n4 c4 a0.kept_, ag B1 109 [.slice A2 n2 c2, .slice A3 n3 c3, .slice A4 n4 c4, .slice A5 n5 c5, .map (some M6), iV a0.next_], br A5 n5 c5 a0.met_, aN bQ eT M6 a0.seen_]) (fun u post => ∃ A0 n0 c0 A1 n1 c1 A2 n2 c2 A3 n3 c3 M4, u = .tuple #[] ∧ post = [ag B1 109 [.slice A0 n0 c0, .slice A1 n1 c1, .slice A2 n2 c2, .slice A3 n3 c3, .map (some M4), iV r.next_], aF A0 n0 c0 r.m_.Young, aF A1 n1 c1 r.m_.Old, cm A2 n2 c2 r.kept_, br A3 n3 c3 r.met_, aN bQ eT M4 r.seen_]) := by
 refine bN Tryz.func155 rfl rfl ?_
 simp only [bc]
 refine fG ?_
 refine bp (fun m s L => ∃ p8 p9 p10 p11 p12 p13 A8 n8 c8 A9 n9 c9 A10 n10 c10 A11 n11 c11 M12, minor_meeter_through_l7 N m p8 p9 p10 p11 p12 p13 = some r ∧ s = [(0, pV B1 0)] ∧ L = [aF A8 n8 c8 p8, aF A9 n9 c9 p9, cm A10 n10 c10 p10, br A11 n11 c11 p11, aN bQ eT M12 p12, ag B1 109 [.slice A8 n8 c8, .slice A9 n9 c9, .slice A10 n10 c10, .slice A11 n11 c11, .map (some M12), iV p13]]) N _ _ ⟨a0.m_.Young, a0.m_.Old, a0.kept_, a0.met_, a0.seen_, a0.next_, A2, n2, c2, A3, n3, c3, A4, n4, c4, A5, n5, c5, M6, h, rfl, rfl⟩ sA (ad [0, 1, 2, 4, 5, 3] 6 rfl rfl) ?_
 rintro (_ | m7) _ _ ⟨p8, p9, p10, p11, p12, p13, A8, n8, c8, A9, n9, c9, A10, n10, c10, A11, n11, c11, M12, h, rfl, rfl⟩
 ·exact aD h
 rw [minor_meeter_through_l7.eq_2] at h
 refine aB ?_
 refine aB ?_
 refine dB (by kernel_rfl) _ (ab _) ?_
 refine aI 0 rfl (by kernel_rfl) (az rfl) rfl rfl ?_
 refine aI 1 rfl (by kernel_rfl) (aZ rfl) rfl rfl ?_
 refine aI 2 rfl (by kernel_rfl) (cr rfl xf) rfl rfl ?_
 refine bv 3 rfl (by kernel_rfl) (aO 5 rfl rfl eo rfl) rfl rfl ?_
 refine aI 4 rfl (by kernel_rfl) (az rfl) rfl rfl ?_
 refine aI 5 rfl (by kernel_rfl) (aZ rfl) rfl rfl ?_
 refine aI 6 rfl (by kernel_rfl) (cr rfl lg) rfl rfl ?_
 refine bv 7 rfl (by kernel_rfl) (aO 5 rfl rfl dE rfl) rfl rfl ?_
 refine bv 8 rfl (by kernel_rfl) (aL 3 rfl aH rfl Tryz.underlying35) rfl rfl ?_
 refine aI 9 rfl (by kernel_rfl) (Fm rfl rfl) rfl rfl ?_
 refine dA (by kernel_rfl) ?_
 refine lN ?_
 refine ay rfl (fun g14 => ?_) (fun g14 => ?_)
 ·replace h := ah g14 h
  refine run ?_
  refine aS (fun s L => ∃ p16 p17 p18 p19 p20 p21 A16 n16 c16 A17 n17 c17 A18 n18 c18 A19 n19 c19 M20, dN N (minor_meeter_through_l7 N m7) p16 p17 p18 p19 p20 p21 = some r ∧ s = [(0, pV B1 0)] ∧ L = [aF A16 n16 c16 p16, aF A17 n17 c17 p17, cm A18 n18 c18 p18, br A19 n19 c19 p19, aN bQ eT M20 p20, ag B1 109 [.slice A16 n16 c16, .slice A17 n17 c17, .slice A18 n18 c18, .slice A19 n19 c19, .map (some M20), iV p21]]) ?_ ?_
  ·refine fG ?_
   refine aB ?_
   obtain ⟨x22, hx22, h⟩ := aa h
   obtain ⟨lx22, ux22, hx22⟩ := au hx22
   obtain ⟨y23, hy23, h⟩ := aa h
   obtain ⟨y28, hy28, h⟩ := aa h
   refine dK (t := [(0, pV B1 0)]) ?_ fU (ab _)
   refine d9 (by kernel_rfl) 15 [] [12, 13, 14] [21, 22, 23, 24, 25, 26, 27, 28, 29, 30, 31, 32, 33, 34, 35] [[], [], [1], [2], [3], [], [5], [6], [7], [4, 8], [9], [0, 10], [11], [12], []] [aV (pV B1 0),
 aV (pV B1 0),
 aV (pV B1 0),
 aV (pV B1 3),
 aV (.slice A11 n11 c11),
 aV (pV B1 0),
 aV (pV B1 0),
 aV (pV B1 5),
 aV (iV p13),
 aV (cA (.slice A11 n11 c11) p13.toNat 1 0),
 aV (iV x22),
 aX6 (fun (A26 : Option Addr) (n26 c26 : Nat) (A27 : Option Addr) (n27 c27 : Nat) => .agg #[iV y23.Kind, iV y23.Shape, iV y23.Flags, iV y23.Age, .slice A26 n26 c26, .slice A27 n27 c27]) (fun A26 n26 c26 A27 n27 c27 => [av A26 n26 c26 y23.Slots, av A27 n27 c27 y23.More]),
 aX3 (fun (A30 : Option Addr) (n30 c30 : Nat) => .slice A30 n30 c30) (fun A30 n30 c30 => [br A30 n30 c30 y28]),
 aV (iV (y28.length : Int)),
 aV (iV 0)] [] (ab _) (fM) (by kernel_rfl) rfl rfl ?_ ?_ ?_
   ·exact fL
   ·refine ac rfl ?_ ?_
    ·exact aW (az rfl) rfl (aA rfl (ab _))
    refine ac rfl ?_ ?_
    ·intro A30 n30 c30
     exact cc (aL 0 rfl aH rfl Tryz.underlying35) rfl (aA rfl (ab _))
    refine ac rfl ?_ ?_
    ·intro A26 n26 c26 A27 n27 c27
     refine eg (am (fE hy28) sm rfl (mem_cons (aj (i := 0) rfl rfl) (mem_cons (aj (i := 1) rfl rfl) ae)) ef) rfl ?_
     rintro _ _ ⟨_, ⟨A29, n29, c29, rfl, rfl⟩, rfl⟩
     exact gX A29 n29 c29 (ab _)
    refine ac rfl ?_ ?_
    ·refine eg (bH (dT hy23) tK rfl (be [0, 1, 2] [5, 3, 4] [0, 1, 2] 6 rfl)) rfl ?_
     rintro _ _ ⟨_, ⟨A24, n24, c24, A25, n25, c25, rfl, rfl⟩, rfl⟩
     exact xl A24 n24 c24 A25 n25 c25 (ad [0, 1, 5, 6, 7, 3, 4, 2] 8 rfl rfl)
    refine ac rfl ?_ ?_
    ·exact cc (bK (u := iV x22) 3 rfl aH rfl hx22 eo (fun _ _ _ h => by rw [show _ = _ from h]; rfl)) rfl (aA rfl (ab _))
    refine ac rfl ?_ ?_
    ·exact cc (aM 3 rfl aH rfl rfl Tryz.underlying35 dD lx22 ux22) rfl (aA rfl (ab _))
    refine ac rfl ?_ ?_
    ·exact cc (aO 5 rfl rfl eo rfl) rfl (aA rfl (ab _))
    refine ac rfl ?_ ?_
    ·exact aW (cr rfl xf) rfl (aA rfl (ab _))
    refine ac rfl ?_ ?_
    ·exact aW (aZ rfl) rfl (aA rfl (ab _))
    refine ac rfl ?_ ?_
    ·exact aW (az rfl) rfl (aA rfl (ab _))
    refine ac rfl ?_ ?_
    ·exact cc (aO 5 rfl rfl dE rfl) rfl (aA rfl (ab _))
    refine ac rfl ?_ ?_
    ·exact aW (cr rfl lg) rfl (aA rfl (ab _))
    refine ac rfl ?_ ?_
    ·exact aW (aZ rfl) rfl (aA rfl (ab _))
    refine ac rfl ?_ ?_
    ·exact aW (az rfl) rfl (aA rfl (ab _))
    refine ac rfl ?_ ?_
    ·exact aW (az rfl) rfl (aA rfl (ab _))
    exact cO
   intro A30 n30 c30
   refine ip (t := [(33, .slice A30 n30 c30), (34, iV (y28.length : Int)), (35, iV 0), (0, pV B1 0)]) (L' := [br A30 n30 c30 y28, aF A8 n8 c8 p8, aF A9 n9 c9 p9, cm A10 n10 c10 p10, br A11 n11 c11 p11, aN bQ eT M12 p12, ag B1 109 [.slice A8 n8 c8, .slice A9 n9 c9, .slice A10 n10 c10, .slice A11 n11 c11, .map (some M12), iV p13]]) ?_ fU (ab _)
   refine fT (by kernel_rfl) ?_
   refine run ?_
   refine bp (fun m s L => ∃ p32 p33 p34 p35 p36 p37 p38 A33 n33 c33 A34 n34 c34 A35 n35 c35 A36 n36 c36 M37, minor_meeter_through_l31 N (minor_meeter_through_l7 N m7) y28 m p32 p33 p34 p35 p36 p37 p38 = some r ∧ s = [(0, pV B1 0), (33, .slice A30 n30 c30), (34, iV (y28.length : Int)), (35, iV p32)] ∧ L = [br A30 n30 c30 y28, aF A33 n33 c33 p33, aF A34 n34 c34 p34, cm A35 n35 c35 p35, br A36 n36 c36 p36, aN bQ eT M37 p37, ag B1 109 [.slice A33 n33 c33, .slice A34 n34 c34, .slice A35 n35 c35, .slice A36 n36 c36, .map (some M37), iV p38]]) N _ _ ⟨0, p8, p9, p10, p11, p12, p13, A8, n8, c8, A9, n9, c9, A10, n10, c10, A11, n11, c11, M12, h, rfl, rfl⟩ sA (ad [0, 1, 2, 3, 4, 5, 6] 7 rfl rfl) ?_
   rintro (_ | m31) _ _ ⟨p32, p33, p34, p35, p36, p37, p38, A33, n33, c33, A34, n34, c34, A35, n35, c35, A36, n36, c36, M37, h, rfl, rfl⟩
   ·exact aD h
   rw [minor_meeter_through_l31.eq_2] at h
   refine run ?_
   refine aB ?_
   refine ay rfl (fun g39 => ?_) (fun g39 => ?_)
   ·replace h := ah g39 h
    refine run ?_
    refine aB ?_
    refine run ?_
    obtain ⟨x40, hx40, h⟩ := aa h
    obtain ⟨lx40, ux40, hx40⟩ := au hx40
    refine gR (aM 0 rfl aH rfl rfl Tryz.underlying35 dD lx40 ux40) ?_
    refine gR (bK (u := iV x40) 0 rfl aH rfl hx40 eo (fun _ _ _ h => by rw [show _ = _ from h]; rfl)) ?_
    refine run ?_
    obtain ⟨y41, hy41, h⟩ := aa h
    refine gD (bH (fg hy41) vH rfl (be [1, 2, 3] [6, 4, 5] [0, 1, 2, 3] 7 rfl)) ?_
    rintro _ _ ⟨_, ⟨A42, n42, c42, A43, n43, c43, A44, n44, c44, A45, n45, c45, M46, rfl, rfl⟩, rfl⟩
    refine run ?_
    obtain ⟨q47, h⟩ := ap h
    refine gE (aR rfl rfl q47.1 q47.2) ?_
    refine run ?_
    exact ⟨m31, _, _, Nat.lt_succ_self _, ⟨p32 + 1, y41.m_.Young, y41.m_.Old, y41.kept_, y41.met_, y41.seen_, y41.next_, A42, n42, c42, A43, n43, c43, A44, n44, c44, A45, n45, c45, M46, h, rfl, rfl⟩, sA, ad [6, 1, 2, 3, 4, 5, 0] 10 rfl rfl⟩
   replace h := ai g39 h
   refine run ?_
   exact ⟨_, _, ⟨p33, p34, p35, p36, p37, p38, A33, n33, c33, A34, n34, c34, A35, n35, c35, A36, n36, c36, M37, h, rfl, rfl⟩, sA, ad [1, 2, 3, 4, 5, 6] 7 rfl rfl⟩
  rintro _ _ ⟨p16, p17, p18, p19, p20, p21, A16, n16, c16, A17, n17, c17, A18, n18, c18, A19, n19, c19, M20, h, rfl, rfl⟩
  refine run ?_
  obtain ⟨q48, h⟩ := ap h
  refine gE (aR rfl rfl q48.1 q48.2) ?_
  refine run ?_
  refine gO (ar (us := [iV (p21 + 1)]) (cs' := [.slice A16 n16 c16, .slice A17 n17 c17, .slice A18 n18 c18, .slice A19 n19 c19, .map (some M20), iV (p21 + 1)]) 5 rfl rfl rfl rfl dD rfl rfl rfl) ?_
  rintro _ _ rfl
  refine run ?_
  exact ⟨m7, _, _, Nat.lt_succ_self _, ⟨p16, p17, p18, p19, p20, p21 + 1, A16, n16, c16, A17, n17, c17, A18, n18, c18, A19, n19, c19, M20, h, rfl, rfl⟩, sA, ad [0, 1, 2, 3, 4, 5] 6 rfl rfl⟩
 replace h := ai g14 h
 refine run ?_
 obtain rfl := aq h
 exact jo rfl (ad [5, 0, 1, 2, 3, 4] 6 rfl rfl) ⟨_, _, _, _, _, _, _, _, _, _, _, _, _, rfl, rfl⟩
def ij (N : Nat) (a0 : DMeeter) (p8 : (List Int)) : Option (List Int) :=
 bM (cD (p8.length + a0.met_.length)) (some (p8 ++ a0.met_))
def minor_meeter_live_l9 (N : Nat) (a0 : DMeeter) : Nat → (List Int) → Int → Option (List Int)
 | 0, _, _ => none
 | m9 + 1, p10, p11 => bif decide (p11 < (a0.m_.Old.length : Int)) then (bM (in64 (2 * p11)) (bM (in64 ((2 * p11) + 2)) (bM (cD (p10.length + ([(2 * p11) + 2] : List Int).length)) (bM (in64 (p11 + 1)) ((minor_meeter_live_l9 N a0 m9) (p10 ++ ([(2 * p11) + 2] : List Int)) (p11 + 1)))))) else (ij N a0 p10)
def el (N : Nat) (a0 : DMeeter) : Option (List Int) :=
 minor_meeter_live_l9 N a0 N [] 0
theorem lb {N : Nat} {a0 : DMeeter} {r : (List Int)} (h : el N a0 = some r) : Okc Tryz.prog 100 [pV B1 0] ([bU B1 109 [.slice A2 n2 c2, .slice A3 n3 c3, .slice A4 n4 c4, .slice A5 n5 c5, .map (some M6), iV a0.next_], aF A2 n2 c2 a0.m_.Young, aF A3 n3 c3 a0.m_.Old, cm A4 n4 c4 a0.kept_, cm A5 n5 c5 a0.met_, pG bQ eT M6 a0.seen_]) (fun u post => ∃ A0 n0 c0, u = .slice A0 n0 c0 ∧ post = [br A0 n0 c0 r]) := by
 refine bN Tryz.func100 rfl rfl ?_
 simp only [bc]
 refine run ?_
 refine aS (fun s L => ∃ p8 A8 n8 c8, ij N a0 p8 = some r ∧ s = [(0, pV B1 0), (2, .slice none 0 0), (3, .slice A8 n8 c8)] ∧ L = [br A8 n8 c8 p8, aF A2 n2 c2 a0.m_.Young, aF A3 n3 c3 a0.m_.Old, cm A4 n4 c4 a0.kept_, cm A5 n5 c5 a0.met_, pG bQ eT M6 a0.seen_, bU B1 109 [.slice A2 n2 c2, .slice A3 n3 c3, .slice A4 n4 c4, .slice A5 n5 c5, .map (some M6), iV a0.next_]]) ?_ ?_
 ·refine run ?_
  refine gR (ci 0 rfl rfl gU rfl) ?_
  refine gR (aL 2 rfl ao rfl Tryz.underlying22) ?_
  refine run ?_
  refine bp (fun m s L => ∃ p10 p11 A10 n10 c10, minor_meeter_live_l9 N a0 m p10 p11 = some r ∧ s = [(0, pV B1 0), (2, .slice none 0 0), (3, .slice A10 n10 c10), (10, iV (a0.m_.Old.length : Int)), (11, iV p11)] ∧ L = [br A10 n10 c10 p10, aF A2 n2 c2 a0.m_.Young, aF A3 n3 c3 a0.m_.Old, cm A4 n4 c4 a0.kept_, cm A5 n5 c5 a0.met_, pG bQ eT M6 a0.seen_, bU B1 109 [.slice A2 n2 c2, .slice A3 n3 c3, .slice A4 n4 c4, .slice A5 n5 c5, .map (some M6), iV a0.next_]]) N _ _ ⟨[], 0, none, 0, 0, h, rfl, rfl⟩ sA ((cH (dS .i64) 3 _).trans (ad [0, 2, 3, 4, 5, 6, 1] 7 rfl rfl)) ?_
  rintro (_ | m9) _ _ ⟨p10, p11, A10, n10, c10, h, rfl, rfl⟩
  ·exact aD h
  rw [minor_meeter_live_l9.eq_2] at h
  refine run ?_
  refine aB ?_
  refine ay rfl (fun g13 => ?_) (fun g13 => ?_)
  ·replace h := ah g13 h
   refine run ?_
   refine aB ?_
   refine run ?_
   obtain ⟨q14, h⟩ := ap h
   refine gE (qh rfl rfl q14.1 q14.2) ?_
   obtain ⟨q15, h⟩ := ap h
   refine gE (aR rfl rfl q15.1 q15.2) ?_
   refine gD (bm (R := (dS .i64)) (vss := [[iV ((2 * p11) + 2)]]) (xs := [(2 * p11) + 2]) rfl (gG _) rfl rfl (fun _ _ hr => .cons rfl All2.nil)) ?_
   rintro _ _ ⟨A16, n16, c16, rfl, rfl⟩
   obtain ⟨q17, h⟩ := ap h
   refine gD (bF 1 0 rfl rfl aH rfl rfl Tryz.underlying35 Ac rfl rfl q17) ?_
   rintro _ _ ⟨A18, n18, c18, rfl, rfl⟩
   refine run ?_
   obtain ⟨q19, h⟩ := ap h
   refine gE (aR rfl rfl q19.1 q19.2) ?_
   refine run ?_
   exact ⟨m9, _, _, Nat.lt_succ_self _, ⟨p10 ++ ([(2 * p11) + 2] : List Int), p11 + 1, A18, n18, c18, h, rfl, rfl⟩, sA, ad [1, 2, 3, 4, 5, 6, 7] 8 rfl rfl⟩
  replace h := ai g13 h
  refine run ?_
  exact ⟨_, _, ⟨p10, A10, n10, c10, h, rfl, rfl⟩, sA, ad [0, 1, 2, 3, 4, 5, 6] 7 rfl rfl⟩
 rintro _ _ ⟨p8, A8, n8, c8, h, rfl, rfl⟩
 refine run ?_
 refine gR (ci 6 rfl rfl dE rfl) ?_
 obtain ⟨q20, h⟩ := ap h
 refine gD (bF 0 4 rfl rfl ao rfl rfl Tryz.underlying35 Ac rfl rfl q20) ?_
 rintro _ _ ⟨A21, n21, c21, rfl, rfl⟩
 refine run ?_
 obtain rfl := aq h
 exact aQ rfl rfl (ad [0] 7 rfl rfl) ⟨_, _, _, rfl, rfl⟩
theorem jH {r : (List Int)} : ∀ v post, ((fun (u : Value) (post : List Chunk) => ∃ A0 n0 c0, u = .slice A0 n0 c0 ∧ post = [br A0 n0 c0 r])) v post → ∀ c ∈ post, cZ c := by
 rintro _ _ ⟨_, _, _, rfl, rfl⟩; exact mem_cons bS (ae)
def iv (N : Nat) (p3 : (List Int)) : Option (List Int) :=
 some p3
def lr (N : Nat) (a1 : Int) : Option (List Int) :=
 bif decide (a1 < 0) then none else (bM (in64 (0 - 0)) (bM (in64 (a1 - (0 - 0))) (bif decide (0 < a1 - (0 - 0)) then (bM ((0 : Int) < (a1 - (0 - 0)) ∧ (a1 - (0 - 0)) ≤ 1099511627776) (iv N ([] : List Int))) else (iv N []))))
theorem tX {N : Nat} {a1 : Int} {r : (List Int)} (h : lr N a1 = some r) : Okc Tryz.prog 200 [.slice none 0 0, iV a1] ([]) (fun u post => ∃ A0 n0 c0, u = .slice A0 n0 c0 ∧ post = [br A0 n0 c0 r]) := by
 refine bN Tryz.func200 rfl rfl ?_
 simp only [bc]
 refine run ?_
 refine aB ?_
 refine run ?_
 refine ay rfl (fun g1 => ?_) (fun g1 => ?_)
 ·replace h := ah g1 h
  exact aD h
 replace h := ai g1 h
 refine run ?_
 refine aS (fun s L => ∃ p3 A3 n3 c3, iv N p3 = some r ∧ s = [(0, .slice A3 n3 c3), (4, .slice none 0 0)] ∧ L = [br A3 n3 c3 p3]) ?_ ?_
 ·refine run ?_
  refine gE (vF rfl Tryz.underlying35) ?_
  refine run ?_
  refine gE (nT rfl Tryz.underlying35) ?_
  obtain ⟨q4, h⟩ := ap h
  refine gE (sb rfl rfl q4.1 q4.2) ?_
  obtain ⟨q5, h⟩ := ap h
  refine gE (sb rfl rfl q5.1 q5.2) ?_
  refine run ?_
  refine ay rfl (fun g6 => ?_) (fun g6 => ?_)
  ·replace h := ah g6 h
   refine run ?_
   refine gE (vF rfl Tryz.underlying35) ?_
   refine gE (yD rfl Tryz.underlying35 dD rfl) ?_
   refine run ?_
   obtain ⟨q7, h⟩ := ap h
   refine gD (wG rfl rfl Tryz.underlying35 Tryz.underlying3 Ac rfl q7.1 q7.2) ?_
   rintro _ _ ⟨A8, n8, c8, rfl, rfl⟩
   refine run ?_
   refine gE (nT rfl Tryz.underlying35) ?_
   refine gD (CS (R := (dS .i64)) 0 rfl rfl Tryz.underlying35 dD rfl rfl) ?_
   rintro _ _ ⟨A9, n9, c9, rfl, rfl⟩
   refine run ?_
   exact ⟨_, _, ⟨([] : List Int), A9, n9, c9, h, rfl, rfl⟩, sA, ad [0] 1 rfl rfl⟩
  replace h := ai g6 h
  refine run ?_
  exact ⟨_, _, ⟨[], none, 0, 0, h, rfl, rfl⟩, sA, (cH (dS .i64) 3 _).trans (ad [0] 1 rfl rfl)⟩
 rintro _ _ ⟨p3, A3, n3, c3, h, rfl, rfl⟩
 refine run ?_
 obtain rfl := aq h
 exact aQ rfl rfl (ad [0] 1 rfl rfl) ⟨_, _, _, rfl, rfl⟩
theorem rT {r : (List Int)} : ∀ v post, ((fun (u : Value) (post : List Chunk) => ∃ A0 n0 c0, u = .slice A0 n0 c0 ∧ post = [br A0 n0 c0 r])) v post → ∀ c ∈ post, cZ c := by
 rintro _ _ ⟨_, _, _, rfl, rfl⟩; exact mem_cons bS (ae)
def jz (N : Nat) (p12 : (List Int)) : Option (List Int) :=
 some p12
def ke (N : Nat) (a0_0 : (List Int)) (a0_1 : (List Int)) : Option (List Int) :=
 (lr N ((0 + (a0_0.length : Int)) + (a0_1.length : Int))).bind fun y9 => bM (cD (y9.length + a0_0.length)) (bM (cD ((y9 ++ a0_0).length + a0_1.length)) (jz N ((y9 ++ a0_0) ++ a0_1)))
def ja (N : Nat) (a0_0 : (List Int)) (a0_1 : (List Int)) : Option (List Int) :=
 bM (in64 (0 + (a0_0.length : Int))) (bif decide (0 + (a0_0.length : Int) < 0) then none else (bM (in64 ((0 + (a0_0.length : Int)) + (a0_1.length : Int))) (bif decide ((0 + (a0_0.length : Int)) + (a0_1.length : Int) < 0) then none else (ke N a0_0 a0_1))))
theorem tY {N : Nat} {a0_0 : (List Int)} {a0_1 : (List Int)} {r : (List Int)} (h : ja N a0_0 a0_1 = some r) : Okc Tryz.prog 189 [.slice (some ⟨B1, 0, none⟩) 2 2] ([bU B1 35 [.slice A2 n2 c2, .slice A3 n3 c3], cm A2 n2 c2 a0_0, cm A3 n3 c3 a0_1]) (fun u post => ∃ A0 n0 c0, u = .slice A0 n0 c0 ∧ post = [br A0 n0 c0 r]) := by
 refine bN Tryz.func189 rfl rfl ?_
 simp only [bc]
 refine run ?_
 refine aS (fun s L => ke N a0_0 a0_1 = some r ∧ s = [(0, .slice (some ⟨B1, 0, none⟩) 2 2), (2, .slice none 0 0), (3, iV ((0 + (a0_0.length : Int)) + (a0_1.length : Int)))] ∧ L = [cm A2 n2 c2 a0_0, cm A3 n3 c3 a0_1, bU B1 35 [.slice A2 n2 c2, .slice A3 n3 c3]]) ?_ ?_
 ·refine run ?_
  refine gE (nT rfl Tryz.underlying181) ?_
  refine run ?_
  refine qt 3 ?_
  refine sv ?_
  refine run ?_
  refine aB ?_
  refine iq rfl ?_
  refine run ?_
  refine aB ?_
  refine run ?_
  refine gE (mK rfl rfl Tryz.underlying181 iK (by decide) (by decide)) ?_
  refine gR (ci 0 rfl rfl dE rfl) ?_
  refine run ?_
  refine gR (aL 1 rfl ao rfl Tryz.underlying35) ?_
  obtain ⟨q5, h⟩ := ap h
  refine gE (aR rfl rfl q5.1 q5.2) ?_
  refine run ?_
  refine ay rfl (fun g6 => ?_) (fun g6 => ?_)
  ·replace h := ah g6 h
   exact aD h
  replace h := ai g6 h
  refine run ?_
  refine gE (aR rfl rfl (by decide) (by decide)) ?_
  refine run ?_
  refine sv ?_
  refine run ?_
  refine aB ?_
  refine iq rfl ?_
  refine run ?_
  refine aB ?_
  refine run ?_
  refine gE (mK rfl rfl Tryz.underlying181 iK (by decide) (by decide)) ?_
  refine gR (ci 0 rfl rfl dE rfl) ?_
  refine run ?_
  refine gR (aL 2 rfl ao rfl Tryz.underlying35) ?_
  obtain ⟨q7, h⟩ := ap h
  refine gE (aR rfl rfl q7.1 q7.2) ?_
  refine run ?_
  refine ay rfl (fun g8 => ?_) (fun g8 => ?_)
  ·replace h := ah g8 h
   exact aD h
  replace h := ai g8 h
  refine run ?_
  refine gE (aR rfl rfl (by decide) (by decide)) ?_
  refine run ?_
  refine sv ?_
  refine run ?_
  refine aB ?_
  refine lm rfl ?_
  refine run ?_
  exact ⟨_, _, ⟨h, rfl, rfl⟩, sA, ad [1, 2, 0] 3 rfl rfl⟩
 rintro _ _ ⟨h, rfl, rfl⟩
 refine run ?_
 obtain ⟨y9, hy9, h⟩ := aa h
 refine gD (am (tX hy9) GE rfl (ae) rT) ?_
 rintro _ _ ⟨_, ⟨A10, n10, c10, rfl, rfl⟩, rfl⟩
 refine run ?_
 refine aS (fun s L => ∃ p12 A12 n12 c12, jz N p12 = some r ∧ s = [(2, .slice none 0 0), (6, .slice A12 n12 c12)] ∧ L = [br A12 n12 c12 p12]) ?_ ?_
 ·refine run ?_
  refine gE (nT rfl Tryz.underlying181) ?_
  refine run ?_
  refine qt 3 ?_
  refine sv ?_
  refine run ?_
  refine aB ?_
  refine iq rfl ?_
  refine run ?_
  refine aB ?_
  refine run ?_
  refine gE (mK rfl rfl Tryz.underlying181 iK (by decide) (by decide)) ?_
  refine gR (ci 3 rfl rfl dE rfl) ?_
  refine run ?_
  obtain ⟨q13, h⟩ := ap h
  refine gD (bF 0 1 rfl rfl ao rfl rfl Tryz.underlying35 Ac rfl rfl q13) ?_
  rintro _ _ ⟨A14, n14, c14, rfl, rfl⟩
  refine run ?_
  refine gE (aR rfl rfl (by decide) (by decide)) ?_
  refine run ?_
  refine sv ?_
  refine run ?_
  refine aB ?_
  refine iq rfl ?_
  refine run ?_
  refine aB ?_
  refine run ?_
  refine gE (mK rfl rfl Tryz.underlying181 iK (by decide) (by decide)) ?_
  refine gR (ci 3 rfl rfl dE rfl) ?_
  refine run ?_
  obtain ⟨q15, h⟩ := ap h
  refine gD (bF 0 2 rfl rfl ao rfl rfl Tryz.underlying35 Ac rfl rfl q15) ?_
  rintro _ _ ⟨A16, n16, c16, rfl, rfl⟩
  refine run ?_
  refine gE (aR rfl rfl (by decide) (by decide)) ?_
  refine run ?_
  refine sv ?_
  refine run ?_
  refine aB ?_
  refine lm rfl ?_
  refine run ?_
  exact ⟨_, _, ⟨(y9 ++ a0_0) ++ a0_1, A16, n16, c16, h, rfl, rfl⟩, sA, ad [0] 4 rfl rfl⟩
 rintro _ _ ⟨p12, A12, n12, c12, h, rfl, rfl⟩
 refine run ?_
 obtain rfl := aq h
 exact aQ rfl rfl (ad [0] 1 rfl rfl) ⟨_, _, _, rfl, rfl⟩
theorem rU {r : (List Int)} : ∀ v post, ((fun (u : Value) (post : List Chunk) => ∃ A0 n0 c0, u = .slice A0 n0 c0 ∧ post = [br A0 n0 c0 r])) v post → ∀ c ∈ post, cZ c := by
 rintro _ _ ⟨_, _, _, rfl, rfl⟩; exact mem_cons bS (ae)
def ii (N : Nat) (a0 : DMeeter) (p10 : (List DCell)) (p11 : (List DCell)) (p12 : (List Int)) (p13 : (List Int)) (p14 : (List (Int × Bool))) (p15 : Int) : Option (Bool × DMeeter) :=
 some (decide ((a0.met_.length : Int) < (p13.length : Int)), (⟨(⟨p10, p11⟩ : DMemory), p12, p13, p14, p15⟩ : DMeeter))
def eS (N : Nat) (kb21 : Int → (List DCell) → (List DCell) → (List Int) → (List Int) → (List (Int × Bool)) → Int → Option (Bool × DMeeter)) (a0 : DMeeter) (y18 : ((List Int))) (p22 : Int) (y7 : ((List Int))) (p31 : (List DCell)) (p32 : (List DCell)) (p33 : (List Int)) (p34 : (List Int)) (p35 : (List (Int × Bool))) (p36 : Int) : Option (Bool × DMeeter) :=
 bM (in64 (p22 + 1)) (kb21 (p22 + 1) p31 p32 p33 p34 p35 p36)
def minor_meeter_open_l43 (N : Nat) (kb21 : Int → (List DCell) → (List DCell) → (List Int) → (List Int) → (List (Int × Bool)) → Int → Option (Bool × DMeeter)) (a0 : DMeeter) (y18 : ((List Int))) (p22 : Int) (y41 : ((List Int))) (y7 : ((List Int))) : Nat → Int → (List DCell) → (List DCell) → (List Int) → (List Int) → (List (Int × Bool)) → Int → Option (Bool × DMeeter)
 | 0, _, _, _, _, _, _, _ => none
 | m43 + 1, p44, p45, p46, p47, p48, p49, p50 => bif decide (p44 < (y41.length : Int)) then ((aG y41 p44).bind fun x52 => (bY N (⟨(⟨p45, p46⟩ : DMemory), p47, p48, p49, p50⟩ : DMeeter) x52).bind fun y53 => bM (in64 (p44 + 1)) ((minor_meeter_open_l43 N kb21 a0 y18 p22 y41 y7 m43) (p44 + 1) y53.m_.Young y53.m_.Old y53.kept_ y53.met_ y53.seen_ y53.next_)) else (eS N kb21 a0 y18 p22 y7 p45 p46 p47 p48 p49 p50)
def minor_meeter_open_l21 (N : Nat) (a0 : DMeeter) (y18 : ((List Int))) (y7 : ((List Int))) : Nat → Int → (List DCell) → (List DCell) → (List Int) → (List Int) → (List (Int × Bool)) → Int → Option (Bool × DMeeter)
 | 0, _, _, _, _, _, _, _ => none
 | m21 + 1, p22, p23, p24, p25, p26, p27, p28 => bif decide (p22 < (y18.length : Int)) then ((aG y18 p22).bind fun x37 => (bP N (⟨(⟨p23, p24⟩ : DMemory), p25, p26, p27, p28⟩ : DMeeter) x37).bind fun y38 => (jy N y38 y7).bind fun y41 => minor_meeter_open_l43 N (minor_meeter_open_l21 N a0 y18 y7 m21) a0 y18 p22 y41 y7 N 0 p23 p24 p25 p26 p27 p28) else (ii N a0 p23 p24 p25 p26 p27 p28)
def ej (N : Nat) (a0 : DMeeter) : Option (Bool × DMeeter) :=
 (el N a0).bind fun y7 => (ja N a0.kept_ a0.met_).bind fun y18 => minor_meeter_open_l21 N a0 y18 y7 N 0 a0.m_.Young a0.m_.Old a0.kept_ a0.met_ a0.seen_ a0.next_
theorem pY {N : Nat} {a0 : DMeeter} {r : (Bool × DMeeter)} (h : ej N a0 = some r) : Okc Tryz.prog 156 [pV B1 0] ([aF A2 n2 c2 a0.m_.Young, aF A3 n3 c3 a0.m_.Old, cm A4 n4 c4 a0.kept_, ag B1 109 [.slice A2 n2 c2, .slice A3 n3 c3, .slice A4 n4 c4, .slice A5 n5 c5, .map (some M6), iV a0.next_], br A5 n5 c5 a0.met_, aN bQ eT M6 a0.seen_]) (fun u post => ∃ A0 n0 c0 A1 n1 c1 A2 n2 c2 A3 n3 c3 M4, u = .bool r.1 ∧ post = [ag B1 109 [.slice A0 n0 c0, .slice A1 n1 c1, .slice A2 n2 c2, .slice A3 n3 c3, .map (some M4), iV r.2.next_], aF A0 n0 c0 r.2.m_.Young, aF A1 n1 c1 r.2.m_.Old, cm A2 n2 c2 r.2.kept_, br A3 n3 c3 r.2.met_, aN bQ eT M4 r.2.seen_]) := by
 refine bN Tryz.func156 rfl rfl ?_
 simp only [bc]
 refine run ?_
 refine gR (aL 4 rfl aH rfl Tryz.underlying35) ?_
 refine run ?_
 obtain ⟨y7, hy7, h⟩ := aa h
 refine gD (am (lb hy7) Dl rfl (mem_cons (fm (i := 3) rfl) (mem_cons (aj (i := 0) rfl rfl) (mem_cons (aj (i := 1) rfl rfl) (mem_cons (aj (i := 2) rfl rfl) (mem_cons (aK (i := 4) rfl) (mem_cons (fN (i := 5) rfl) ae)))))) jH) ?_
 rintro _ _ ⟨_, ⟨A8, n8, c8, rfl, rfl⟩, rfl⟩
 refine run ?_
 refine aS (fun s L => ∃ p10 p11 p12 p13 p14 p15 A10 n10 c10 A11 n11 c11 A12 n12 c12 A13 n13 c13 M14, ii N a0 p10 p11 p12 p13 p14 p15 = some r ∧ s = [(0, pV B1 0), (2, .bool false), (3, iV (a0.met_.length : Int))] ∧ L = [aF A10 n10 c10 p10, aF A11 n11 c11 p11, cm A12 n12 c12 p12, br A13 n13 c13 p13, aN bQ eT M14 p14, ag B1 109 [.slice A10 n10 c10, .slice A11 n11 c11, .slice A12 n12 c12, .slice A13 n13 c13, .map (some M14), iV p15]]) ?_ ?_
 ·refine aB ?_
  obtain ⟨y18, hy18, h⟩ := aa h
  refine dK (t := [(0, pV B1 0), (2, .bool false), (3, iV (a0.met_.length : Int)), (4, .slice A8 n8 c8)]) ?_ fU (ab _)
  refine d9 (by kernel_rfl) 12 [] [9, 10, 11] [16, 17, 18, 19, 20, 21, 22, 23, 24, 25, 26, 27] [[], [0], [1], [2], [], [4], [5], [6], [3, 7], [8], [9], []] [aV (pV B1 0),
 aV (pV B1 0),
 aV (pV B1 2),
 aV (.slice A4 n4 c4),
 aV (pV B1 0),
 aV (pV B1 0),
 aV (pV B1 3),
 aV (.slice A5 n5 c5),
 aX1 (fun (B17 : Nat) => .slice (some ⟨B17, 0, none⟩) 2 2) (fun B17 => [ag B17 35 [.slice A4 n4 c4, .slice A5 n5 c5]]),
 aX3 (fun (A20 : Option Addr) (n20 c20 : Nat) => .slice A20 n20 c20) (fun A20 n20 c20 => [br A20 n20 c20 y18]),
 aV (iV (y18.length : Int)),
 aV (iV 0)] [] (ab _) (fM) (by kernel_rfl) rfl rfl ?_ ?_ ?_
  ·exact fL
  ·refine ac rfl ?_ ?_
   ·exact aW (az rfl) rfl (aA rfl (ab _))
   refine ac rfl ?_ ?_
   ·intro A20 n20 c20
    exact cc (aL 0 rfl aH rfl Tryz.underlying35) rfl (aA rfl (ab _))
   refine ac rfl ?_ ?_
   ·intro B17
    refine eg (am (tY hy18) GH rfl (mem_cons (fm (i := 0) rfl) (mem_cons (aj (i := 4) rfl rfl) (mem_cons (aK (i := 6) rfl) ae))) rU) rfl ?_
    rintro _ _ ⟨_, ⟨A19, n19, c19, rfl, rfl⟩, rfl⟩
    exact gX A19 n19 c19 (ab _)
   refine ac rfl ?_ ?_
   ·refine eg (r8 (cs := [.slice A4 n4 c4, .slice A5 n5 c5]) rfl (Eg _ _ _ _ _ _)) rfl ?_
    rintro _ _ ⟨B16, rfl, rfl⟩
    exact AZ B16 (ab _)
   refine ac rfl ?_ ?_
   ·exact cc (aO 4 rfl rfl dE rfl) rfl (aA rfl (ab _))
   refine ac rfl ?_ ?_
   ·exact aW (cr rfl lg) rfl (aA rfl (ab _))
   refine ac rfl ?_ ?_
   ·exact aW (aZ rfl) rfl (aA rfl (ab _))
   refine ac rfl ?_ ?_
   ·exact aW (az rfl) rfl (aA rfl (ab _))
   refine ac rfl ?_ ?_
   ·exact cc (aO 4 rfl rfl dE rfl) rfl (aA rfl (ab _))
   refine ac rfl ?_ ?_
   ·exact aW (cr rfl AS) rfl (aA rfl (ab _))
   refine ac rfl ?_ ?_
   ·exact aW (aZ rfl) rfl (aA rfl (ab _))
   refine ac rfl ?_ ?_
   ·exact aW (az rfl) rfl (aA rfl (ab _))
   exact cO
  intro A20 n20 c20
  refine ip (t := [(25, .slice A20 n20 c20), (26, iV (y18.length : Int)), (27, iV 0), (0, pV B1 0), (2, .bool false), (3, iV (a0.met_.length : Int)), (4, .slice A8 n8 c8)]) (L' := [br A20 n20 c20 y18, br A8 n8 c8 y7, aF A2 n2 c2 a0.m_.Young, aF A3 n3 c3 a0.m_.Old, cm A4 n4 c4 a0.kept_, ag B1 109 [.slice A2 n2 c2, .slice A3 n3 c3, .slice A4 n4 c4, .slice A5 n5 c5, .map (some M6), iV a0.next_], br A5 n5 c5 a0.met_, aN bQ eT M6 a0.seen_]) ?_ fU (ab _)
  refine fT (by kernel_rfl) ?_
  refine run ?_
  refine bp (fun m s L => ∃ p22 p23 p24 p25 p26 p27 p28 A23 n23 c23 A24 n24 c24 A25 n25 c25 A26 n26 c26 M27, minor_meeter_open_l21 N a0 y18 y7 m p22 p23 p24 p25 p26 p27 p28 = some r ∧ s = [(0, pV B1 0), (2, .bool false), (3, iV (a0.met_.length : Int)), (4, .slice A8 n8 c8), (25, .slice A20 n20 c20), (26, iV (y18.length : Int)), (27, iV p22)] ∧ L = [br A8 n8 c8 y7, br A20 n20 c20 y18, aF A23 n23 c23 p23, aF A24 n24 c24 p24, cm A25 n25 c25 p25, br A26 n26 c26 p26, aN bQ eT M27 p27, ag B1 109 [.slice A23 n23 c23, .slice A24 n24 c24, .slice A25 n25 c25, .slice A26 n26 c26, .map (some M27), iV p28]]) N _ _ ⟨0, a0.m_.Young, a0.m_.Old, a0.kept_, a0.met_, a0.seen_, a0.next_, A2, n2, c2, A3, n3, c3, A4, n4, c4, A5, n5, c5, M6, h, rfl, rfl⟩ sA (ad [1, 0, 2, 3, 4, 6, 7, 5] 8 rfl rfl) ?_
  rintro (_ | m21) _ _ ⟨p22, p23, p24, p25, p26, p27, p28, A23, n23, c23, A24, n24, c24, A25, n25, c25, A26, n26, c26, M27, h, rfl, rfl⟩
  ·exact aD h
  rw [minor_meeter_open_l21.eq_2] at h
  refine run ?_
  refine aB ?_
  refine ay rfl (fun g29 => ?_) (fun g29 => ?_)
  ·replace h := ah g29 h
   refine run ?_
   refine aS (fun s L => ∃ p31 p32 p33 p34 p35 p36 A31 n31 c31 A32 n32 c32 A33 n33 c33 A34 n34 c34 M35, eS N (minor_meeter_open_l21 N a0 y18 y7 m21) a0 y18 p22 y7 p31 p32 p33 p34 p35 p36 = some r ∧ s = [(0, pV B1 0), (2, .bool false), (3, iV (a0.met_.length : Int)), (4, .slice A8 n8 c8), (25, .slice A20 n20 c20), (26, iV (y18.length : Int)), (27, iV p22)] ∧ L = [br A8 n8 c8 y7, br A20 n20 c20 y18, aF A31 n31 c31 p31, aF A32 n32 c32 p32, cm A33 n33 c33 p33, br A34 n34 c34 p34, aN bQ eT M35 p35, ag B1 109 [.slice A31 n31 c31, .slice A32 n32 c32, .slice A33 n33 c33, .slice A34 n34 c34, .map (some M35), iV p36]]) ?_ ?_
   ·refine run ?_
    obtain ⟨x37, hx37, h⟩ := aa h
    obtain ⟨lx37, ux37, hx37⟩ := au hx37
    refine gR (aM 1 rfl aH rfl rfl Tryz.underlying35 dD lx37 ux37) ?_
    refine gR (bK (u := iV x37) 1 rfl aH rfl hx37 eo (fun _ _ _ h => by rw [show _ = _ from h]; rfl)) ?_
    refine run ?_
    obtain ⟨y38, hy38, h⟩ := aa h
    refine gD (bH (dT hy38) tK rfl (be [2, 3, 4] [7, 5, 6] [0, 1, 2, 3, 4] 8 rfl)) ?_
    rintro _ _ ⟨_, ⟨A39, n39, c39, A40, n40, c40, rfl, rfl⟩, rfl⟩
    refine run ?_
    obtain ⟨y41, hy41, h⟩ := aa h
    refine gD (am (rk hy41) Dg rfl (mem_cons (aj (i := 0) rfl rfl) (mem_cons (aj (i := 1) rfl rfl) (mem_cons (aK (i := 5) rfl) ae))) o8) ?_
    rintro _ _ ⟨_, ⟨A42, n42, c42, rfl, rfl⟩, rfl⟩
    refine gR (aL 0 rfl aH rfl Tryz.underlying35) ?_
    refine run ?_
    refine bp (fun m s L => ∃ p44 p45 p46 p47 p48 p49 p50 A45 n45 c45 A46 n46 c46 A47 n47 c47 A48 n48 c48 M49, minor_meeter_open_l43 N (minor_meeter_open_l21 N a0 y18 y7 m21) a0 y18 p22 y41 y7 m p44 p45 p46 p47 p48 p49 p50 = some r ∧ s = [(0, pV B1 0), (2, .bool false), (3, iV (a0.met_.length : Int)), (4, .slice A8 n8 c8), (25, .slice A20 n20 c20), (26, iV (y18.length : Int)), (27, iV p22), (35, .slice A42 n42 c42), (36, iV (y41.length : Int)), (37, iV p44)] ∧ L = [br A8 n8 c8 y7, br A20 n20 c20 y18, br A42 n42 c42 y41, aF A45 n45 c45 p45, aF A46 n46 c46 p46, cm A47 n47 c47 p47, br A48 n48 c48 p48, aN bQ eT M49 p49, ag B1 109 [.slice A45 n45 c45, .slice A46 n46 c46, .slice A47 n47 c47, .slice A48 n48 c48, .map (some M49), iV p50]]) N _ _ ⟨0, p23, p24, p25, p26, p27, p28, A23, n23, c23, A24, n24, c24, A25, n25, c25, A26, n26, c26, M27, h, rfl, rfl⟩ sA (ad [6, 7, 0, 8, 9, 10, 4, 5, 3] 11 rfl rfl) ?_
    rintro (_ | m43) _ _ ⟨p44, p45, p46, p47, p48, p49, p50, A45, n45, c45, A46, n46, c46, A47, n47, c47, A48, n48, c48, M49, h, rfl, rfl⟩
    ·exact aD h
    rw [minor_meeter_open_l43.eq_2] at h
    refine run ?_
    refine aB ?_
    refine ay rfl (fun g51 => ?_) (fun g51 => ?_)
    ·replace h := ah g51 h
     refine run ?_
     refine aB ?_
     refine run ?_
     obtain ⟨x52, hx52, h⟩ := aa h
     obtain ⟨lx52, ux52, hx52⟩ := au hx52
     refine gR (aM 2 rfl aH rfl rfl Tryz.underlying35 dD lx52 ux52) ?_
     refine gR (bK (u := iV x52) 2 rfl aH rfl hx52 eo (fun _ _ _ h => by rw [show _ = _ from h]; rfl)) ?_
     refine run ?_
     obtain ⟨y53, hy53, h⟩ := aa h
     refine gD (bH (fg hy53) vH rfl (be [3, 4, 5] [8, 6, 7] [0, 1, 2, 3, 4, 5] 9 rfl)) ?_
     rintro _ _ ⟨_, ⟨A54, n54, c54, A55, n55, c55, A56, n56, c56, A57, n57, c57, M58, rfl, rfl⟩, rfl⟩
     refine run ?_
     obtain ⟨q59, h⟩ := ap h
     refine gE (aR rfl rfl q59.1 q59.2) ?_
     refine run ?_
     exact ⟨m43, _, _, Nat.lt_succ_self _, ⟨p44 + 1, y53.m_.Young, y53.m_.Old, y53.kept_, y53.met_, y53.seen_, y53.next_, A54, n54, c54, A55, n55, c55, A56, n56, c56, A57, n57, c57, M58, h, rfl, rfl⟩, sA, ad [6, 7, 8, 1, 2, 3, 4, 5, 0] 12 rfl rfl⟩
    replace h := ai g51 h
    refine run ?_
    exact ⟨_, _, ⟨p45, p46, p47, p48, p49, p50, A45, n45, c45, A46, n46, c46, A47, n47, c47, A48, n48, c48, M49, h, rfl, rfl⟩, sA, ad [0, 1, 3, 4, 5, 6, 7, 8] 9 rfl rfl⟩
   rintro _ _ ⟨p31, p32, p33, p34, p35, p36, A31, n31, c31, A32, n32, c32, A33, n33, c33, A34, n34, c34, M35, h, rfl, rfl⟩
   refine cx ?_
   obtain ⟨q60, h⟩ := ap h
   refine gE (aR rfl rfl q60.1 q60.2) ?_
   refine run ?_
   exact ⟨m21, _, _, Nat.lt_succ_self _, ⟨p22 + 1, p31, p32, p33, p34, p35, p36, A31, n31, c31, A32, n32, c32, A33, n33, c33, A34, n34, c34, M35, h, rfl, rfl⟩, sA, ad [0, 1, 2, 3, 4, 5, 6, 7] 8 rfl rfl⟩
  replace h := ai g29 h
  refine run ?_
  exact ⟨_, _, ⟨p23, p24, p25, p26, p27, p28, A23, n23, c23, A24, n24, c24, A25, n25, c25, A26, n26, c26, M27, h, rfl, rfl⟩, sA, ad [2, 3, 4, 5, 6, 7] 8 rfl rfl⟩
 rintro _ _ ⟨p10, p11, p12, p13, p14, p15, A10, n10, c10, A11, n11, c11, A12, n12, c12, A13, n13, c13, M14, h, rfl, rfl⟩
 refine run ?_
 refine gR (aL 3 rfl aH rfl Tryz.underlying35) ?_
 refine run ?_
 obtain rfl := aq h
 exact aQ rfl rfl (ad [5, 0, 1, 2, 3, 4] 6 rfl rfl) ⟨_, _, _, _, _, _, _, _, _, _, _, _, _, rfl, rfl⟩
def nP (N : Nat) (p98 : (List DCell)) (p99 : (List DCell)) (p100 : (List Int)) (p101 : (List Int)) (p102 : (List (Int × Bool))) (p103 : Int) : Option DMeeter :=
 some (⟨(⟨p98, p99⟩ : DMemory), p100, p101, p102, p103⟩ : DMeeter)
def minor_all_l104 (N : Nat) : Nat → (List DCell) → (List DCell) → (List Int) → (List Int) → (List (Int × Bool)) → Int → Option DMeeter
 | 0, _, _, _, _, _, _ => none
 | m104 + 1, p105, p106, p107, p108, p109, p110 => (ej N (⟨(⟨p105, p106⟩ : DMemory), p107, p108, p109, p110⟩ : DMeeter)).bind fun y111 => bif y111.1 then ((du N y111.2).bind fun y118 => (minor_all_l104 N m104) y118.m_.Young y118.m_.Old y118.kept_ y118.met_ y118.seen_ y118.next_) else (nP N y111.2.m_.Young y111.2.m_.Old y111.2.kept_ y111.2.met_ y111.2.seen_ y111.2.next_)
def nQ (N : Nat) (p45 : (List DCell)) (p46 : (List DCell)) (p47 : (List Int)) (p48 : (List Int)) (p49 : (List (Int × Bool))) (p50 : Int) : Option DMeeter :=
 (du N (⟨(⟨p45, p46⟩ : DMemory), p47, p48, p49, p50⟩ : DMeeter)).bind fun y91 => minor_all_l104 N N y91.m_.Young y91.m_.Old y91.kept_ y91.met_ y91.seen_ y91.next_
def kL (N : Nat) (kb51 : Int → (List DCell) → (List DCell) → (List Int) → (List Int) → (List (Int × Bool)) → Int → Option DMeeter) (a2 : (List Int)) (p52 : Int) (p61 : (List DCell)) (p62 : (List DCell)) (p63 : (List Int)) (p64 : (List Int)) (p65 : (List (Int × Bool))) (p66 : Int) : Option DMeeter :=
 bM (in64 (p52 + 1)) (kb51 (p52 + 1) p61 p62 p63 p64 p65 p66)
def minor_all_l73 (N : Nat) (kb51 : Int → (List DCell) → (List DCell) → (List Int) → (List Int) → (List (Int × Bool)) → Int → Option DMeeter) (a2 : (List Int)) (p52 : Int) (y71 : ((List Int))) : Nat → Int → (List DCell) → (List DCell) → (List Int) → (List Int) → (List (Int × Bool)) → Int → Option DMeeter
 | 0, _, _, _, _, _, _, _ => none
 | m73 + 1, p74, p75, p76, p77, p78, p79, p80 => bif decide (p74 < (y71.length : Int)) then ((aG y71 p74).bind fun x82 => (bY N (⟨(⟨p75, p76⟩ : DMemory), p77, p78, p79, p80⟩ : DMeeter) x82).bind fun y83 => bM (in64 (p74 + 1)) ((minor_all_l73 N kb51 a2 p52 y71 m73) (p74 + 1) y83.m_.Young y83.m_.Old y83.kept_ y83.met_ y83.seen_ y83.next_)) else (kL N kb51 a2 p52 p75 p76 p77 p78 p79 p80)
def minor_all_l51 (N : Nat) (a2 : (List Int)) : Nat → Int → (List DCell) → (List DCell) → (List Int) → (List Int) → (List (Int × Bool)) → Int → Option DMeeter
 | 0, _, _, _, _, _, _, _ => none
 | m51 + 1, p52, p53, p54, p55, p56, p57, p58 => bif decide (p52 < (a2.length : Int)) then ((aG a2 p52).bind fun x67 => (bP N (⟨(⟨p53, p54⟩ : DMemory), p55, p56, p57, p58⟩ : DMeeter) x67).bind fun y68 => (dQ N y68).bind fun y71 => minor_all_l73 N (minor_all_l51 N a2 m51) a2 p52 y71 N 0 p53 p54 p55 p56 p57 p58) else (nQ N p53 p54 p55 p56 p57 p58)
def oV (N : Nat) (a2 : (List Int)) (p9 : (List DCell)) (p10 : (List DCell)) (p11 : (List Int)) (p12 : (List Int)) (p13 : (List (Int × Bool))) (p14 : Int) : Option DMeeter :=
 minor_all_l51 N a2 N 0 p9 p10 p11 p12 p13 p14
def kM (N : Nat) (kb15 : Int → (List DCell) → (List DCell) → (List Int) → (List Int) → (List (Int × Bool)) → Int → Option DMeeter) (a1 : (List DValue)) (p16 : Int) (a2 : (List Int)) (p27 : (List DCell)) (p28 : (List DCell)) (p29 : (List Int)) (p30 : (List Int)) (p31 : (List (Int × Bool))) (p32 : Int) : Option DMeeter :=
 bM (in64 (p16 + 1)) (kb15 (p16 + 1) p27 p28 p29 p30 p31 p32)
def minor_all_l15 (N : Nat) (a1 : (List DValue)) (a2 : (List Int)) : Nat → Int → (List DCell) → (List DCell) → (List Int) → (List Int) → (List (Int × Bool)) → Int → Option DMeeter
 | 0, _, _, _, _, _, _, _ => none
 | m15 + 1, p16, p17, p18, p19, p20, p21, p22 => bif decide (p16 < (a1.length : Int)) then ((aG a1 p16).bind fun x33 => (gz N x33).bind fun y35 => bif y35.2 then ((bY N (⟨(⟨p17, p18⟩ : DMemory), p19, p20, p21, p22⟩ : DMeeter) y35.1).bind fun y37 => kM N (minor_all_l15 N a1 a2 m15) a1 p16 a2 y37.m_.Young y37.m_.Old y37.kept_ y37.met_ y37.seen_ y37.next_) else (kM N (minor_all_l15 N a1 a2 m15) a1 p16 a2 p17 p18 p19 p20 p21 p22)) else (oV N a2 p17 p18 p19 p20 p21 p22)
def lc (N : Nat) (a0 : DMemory) (a1 : (List DValue)) (a2 : (List Int)) : Option DMeeter :=
 minor_all_l15 N a1 a2 N 0 a0.Young a0.Old a2 [] ([] : (List (Int × Bool))) 0
theorem zu {N : Nat} {a0 : DMemory} {a1 : (List DValue)} {a2 : (List Int)} {r : DMeeter} (h : lc N a0 a1 a2 = some r) : Okc Tryz.prog 96 [.agg #[.slice A1 n1 c1, .slice A2 n2 c2], .slice A3 n3 c3, .slice A4 n4 c4] ([aF A1 n1 c1 a0.Young, aF A2 n2 c2 a0.Old, av A3 n3 c3 a1, cm A4 n4 c4 a2]) (fun u post => ∃ B0 A1 n1 c1 A2 n2 c2 A3 n3 c3 A4 n4 c4 M5, u = pV B0 0 ∧ post = [ag B0 109 [.slice A1 n1 c1, .slice A2 n2 c2, .slice A3 n3 c3, .slice A4 n4 c4, .map (some M5), iV r.next_], aF A1 n1 c1 r.m_.Young, aF A2 n2 c2 r.m_.Old, cm A3 n3 c3 r.kept_, br A4 n4 c4 r.met_, aN bQ eT M5 r.seen_]) := by
 refine bN Tryz.func96 rfl rfl ?_
 simp only [bc]
 refine run ?_
 refine gD (bo rfl rfl) ?_
 rintro _ _ ⟨B5, rfl, rfl⟩
 refine run ?_
 refine gR (aC (us := [.slice A1 n1 c1, .slice A2 n2 c2]) 0 rfl rfl cN rfl) ?_
 refine run ?_
 refine gD (kq (ek := bQ) (ev := eT)) ?_
 rintro _ _ ⟨M6, rfl, rfl⟩
 refine gE (cU rfl (xQ _ _ _ _ _ _ _ _ _ _)) ?_
 refine gD (bo rfl rfl) ?_
 rintro _ _ ⟨B7, rfl, rfl⟩
 refine run ?_
 refine aS (fun s L => ∃ p9 p10 p11 p12 p13 p14 A9 n9 c9 A10 n10 c10 A11 n11 c11 A12 n12 c12 M13, oV N a2 p9 p10 p11 p12 p13 p14 = some r ∧ s = [(2, .slice A4 n4 c4), (6, .pointer none), (7, pV B7 0)] ∧ L = [cm A4 n4 c4 a2, aF A9 n9 c9 p9, aF A10 n10 c10 p10, cm A11 n11 c11 p11, br A12 n12 c12 p12, aN bQ eT M13 p13, ag B7 109 [.slice A9 n9 c9, .slice A10 n10 c10, .slice A11 n11 c11, .slice A12 n12 c12, .map (some M13), iV p14]]) ?_ ?_
 ·refine run ?_
  refine gR (aL 5 rfl ao rfl Tryz.underlying25) ?_
  refine run ?_
  refine bp (fun m s L => ∃ p16 p17 p18 p19 p20 p21 p22 A17 n17 c17 A18 n18 c18 A19 n19 c19 A20 n20 c20 M21, minor_all_l15 N a1 a2 m p16 p17 p18 p19 p20 p21 p22 = some r ∧ s = [(2, .slice A4 n4 c4), (6, .pointer none), (7, pV B7 0), (21, .slice A3 n3 c3), (22, iV (a1.length : Int)), (23, iV p16)] ∧ L = [cm A4 n4 c4 a2, av A3 n3 c3 a1, aF A17 n17 c17 p17, aF A18 n18 c18 p18, cm A19 n19 c19 p19, br A20 n20 c20 p20, aN bQ eT M21 p21, ag B7 109 [.slice A17 n17 c17, .slice A18 n18 c18, .slice A19 n19 c19, .slice A20 n20 c20, .map (some M21), iV p22]]) N _ _ ⟨0, a0.Young, a0.Old, a2, [], ([] : (List (Int × Bool))), 0, A1, n1, c1, A2, n2, c2, A4, n4, c4, none, 0, 0, M6, h, rfl, rfl⟩ sA ((cW 6 rfl rfl).trans ((cH (dS .i64) 3 _).trans (ad [8, 7, 5, 6, 1, 0, 3, 2] 9 rfl rfl))) ?_
  rintro (_ | m15) _ _ ⟨p16, p17, p18, p19, p20, p21, p22, A17, n17, c17, A18, n18, c18, A19, n19, c19, A20, n20, c20, M21, h, rfl, rfl⟩
  ·exact aD h
  rw [minor_all_l15.eq_2] at h
  refine run ?_
  refine aB ?_
  refine ay rfl (fun g25 => ?_) (fun g25 => ?_)
  ·replace h := ah g25 h
   refine run ?_
   refine aS (fun s L => ∃ p27 p28 p29 p30 p31 p32 A27 n27 c27 A28 n28 c28 A29 n29 c29 A30 n30 c30 M31, kM N (minor_all_l15 N a1 a2 m15) a1 p16 a2 p27 p28 p29 p30 p31 p32 = some r ∧ s = [(2, .slice A4 n4 c4), (6, .pointer none), (7, pV B7 0), (21, .slice A3 n3 c3), (22, iV (a1.length : Int)), (23, iV p16)] ∧ L = [cm A4 n4 c4 a2, av A3 n3 c3 a1, aF A27 n27 c27 p27, aF A28 n28 c28 p28, cm A29 n29 c29 p29, br A30 n30 c30 p30, aN bQ eT M31 p31, ag B7 109 [.slice A27 n27 c27, .slice A28 n28 c28, .slice A29 n29 c29, .slice A30 n30 c30, .map (some M31), iV p32]]) ?_ ?_
   ·refine run ?_
    obtain ⟨x33, hx33, h⟩ := aa h
    obtain ⟨lx33, ux33, hx33⟩ := au hx33
    refine gR (aM 1 rfl ao rfl rfl Tryz.underlying25 bh lx33 ux33) ?_
    refine gR (bA (us := [iV x33.Kind, iV x33.N, .string x33.S]) 1 rfl ao rfl hx33 ca (fun _ _ _ h => by rw [show _ = _ from h]; rfl)) ?_
    refine gD (aJ f4 rfl) ?_
    rintro _ _ ⟨B34, rfl, rfl⟩
    refine gO (ar (us := [iV x33.Kind, iV x33.N, .string x33.S]) (cs' := [iV x33.Kind, iV x33.N, .string x33.S]) 0 rfl rfl rfl rfl bh rfl rfl rfl) ?_
    rintro _ _ rfl
    refine run ?_
    refine gR (aC (us := [iV x33.Kind, iV x33.N, .string x33.S]) 0 rfl rfl ca rfl) ?_
    obtain ⟨y35, hy35, h⟩ := aa h
    refine gD (am (ou hy35) Dd rfl (ae) mA) ?_
    rintro _ _ ⟨_, ⟨rfl, rfl⟩, rfl⟩
    refine run ?_
    refine ay rfl (fun g36 => ?_) (fun g36 => ?_)
    ·replace h := ah g36 h
     refine run ?_
     obtain ⟨y37, hy37, h⟩ := aa h
     refine gD (bH (fg hy37) vH rfl (be [3, 4, 5] [8, 6, 7] [0, 1, 2, 3, 4, 5] 9 rfl)) ?_
     rintro _ _ ⟨_, ⟨A38, n38, c38, A39, n39, c39, A40, n40, c40, A41, n41, c41, M42, rfl, rfl⟩, rfl⟩
     refine run ?_
     exact ⟨_, _, ⟨y37.m_.Young, y37.m_.Old, y37.kept_, y37.met_, y37.seen_, y37.next_, A38, n38, c38, A39, n39, c39, A40, n40, c40, A41, n41, c41, M42, h, rfl, rfl⟩, sA, ad [7, 8, 1, 2, 3, 4, 5, 0] 12 rfl rfl⟩
    replace h := ai g36 h
    refine run ?_
    exact ⟨_, _, ⟨p17, p18, p19, p20, p21, p22, A17, n17, c17, A18, n18, c18, A19, n19, c19, A20, n20, c20, M21, h, rfl, rfl⟩, sA, ad [1, 2, 3, 4, 5, 6, 7, 8] 9 rfl rfl⟩
   rintro _ _ ⟨p27, p28, p29, p30, p31, p32, A27, n27, c27, A28, n28, c28, A29, n29, c29, A30, n30, c30, M31, h, rfl, rfl⟩
   refine cx ?_
   obtain ⟨q43, h⟩ := ap h
   refine gE (aR rfl rfl q43.1 q43.2) ?_
   refine run ?_
   exact ⟨m15, _, _, Nat.lt_succ_self _, ⟨p16 + 1, p27, p28, p29, p30, p31, p32, A27, n27, c27, A28, n28, c28, A29, n29, c29, A30, n30, c30, M31, h, rfl, rfl⟩, sA, ad [0, 1, 2, 3, 4, 5, 6, 7] 8 rfl rfl⟩
  replace h := ai g25 h
  refine run ?_
  exact ⟨_, _, ⟨p17, p18, p19, p20, p21, p22, A17, n17, c17, A18, n18, c18, A19, n19, c19, A20, n20, c20, M21, h, rfl, rfl⟩, sA, ad [0, 2, 3, 4, 5, 6, 7] 8 rfl rfl⟩
 rintro _ _ ⟨p9, p10, p11, p12, p13, p14, A9, n9, c9, A10, n10, c10, A11, n11, c11, A12, n12, c12, M13, h, rfl, rfl⟩
 refine aS (fun s L => ∃ p45 p46 p47 p48 p49 p50 A45 n45 c45 A46 n46 c46 A47 n47 c47 A48 n48 c48 M49, nQ N p45 p46 p47 p48 p49 p50 = some r ∧ s = [(6, .pointer none), (7, pV B7 0)] ∧ L = [aF A45 n45 c45 p45, aF A46 n46 c46 p46, cm A47 n47 c47 p47, br A48 n48 c48 p48, aN bQ eT M49 p49, ag B7 109 [.slice A45 n45 c45, .slice A46 n46 c46, .slice A47 n47 c47, .slice A48 n48 c48, .map (some M49), iV p50]]) ?_ ?_
 ·refine run ?_
  refine gR (aL 0 rfl ao rfl Tryz.underlying35) ?_
  refine run ?_
  refine bp (fun m s L => ∃ p52 p53 p54 p55 p56 p57 p58 A53 n53 c53 A54 n54 c54 A55 n55 c55 A56 n56 c56 M57, minor_all_l51 N a2 m p52 p53 p54 p55 p56 p57 p58 = some r ∧ s = [(6, .pointer none), (7, pV B7 0), (37, .slice A4 n4 c4), (38, iV (a2.length : Int)), (39, iV p52)] ∧ L = [cm A4 n4 c4 a2, aF A53 n53 c53 p53, aF A54 n54 c54 p54, cm A55 n55 c55 p55, br A56 n56 c56 p56, aN bQ eT M57 p57, ag B7 109 [.slice A53 n53 c53, .slice A54 n54 c54, .slice A55 n55 c55, .slice A56 n56 c56, .map (some M57), iV p58]]) N _ _ ⟨0, p9, p10, p11, p12, p13, p14, A9, n9, c9, A10, n10, c10, A11, n11, c11, A12, n12, c12, M13, h, rfl, rfl⟩ sA (ad [0, 1, 2, 3, 4, 5, 6] 7 rfl rfl) ?_
  rintro (_ | m51) _ _ ⟨p52, p53, p54, p55, p56, p57, p58, A53, n53, c53, A54, n54, c54, A55, n55, c55, A56, n56, c56, M57, h, rfl, rfl⟩
  ·exact aD h
  rw [minor_all_l51.eq_2] at h
  refine run ?_
  refine aB ?_
  refine ay rfl (fun g59 => ?_) (fun g59 => ?_)
  ·replace h := ah g59 h
   refine run ?_
   refine aS (fun s L => ∃ p61 p62 p63 p64 p65 p66 A61 n61 c61 A62 n62 c62 A63 n63 c63 A64 n64 c64 M65, kL N (minor_all_l51 N a2 m51) a2 p52 p61 p62 p63 p64 p65 p66 = some r ∧ s = [(6, .pointer none), (7, pV B7 0), (37, .slice A4 n4 c4), (38, iV (a2.length : Int)), (39, iV p52)] ∧ L = [cm A4 n4 c4 a2, aF A61 n61 c61 p61, aF A62 n62 c62 p62, cm A63 n63 c63 p63, br A64 n64 c64 p64, aN bQ eT M65 p65, ag B7 109 [.slice A61 n61 c61, .slice A62 n62 c62, .slice A63 n63 c63, .slice A64 n64 c64, .map (some M65), iV p66]]) ?_ ?_
   ·refine run ?_
    obtain ⟨x67, hx67, h⟩ := aa h
    obtain ⟨lx67, ux67, hx67⟩ := au hx67
    refine gR (aM 0 rfl ao rfl rfl Tryz.underlying35 dD lx67 ux67) ?_
    refine gR (bK (u := iV x67) 0 rfl ao rfl hx67 eo (fun _ _ _ h => by rw [show _ = _ from h]; rfl)) ?_
    refine run ?_
    obtain ⟨y68, hy68, h⟩ := aa h
    refine gD (bH (dT hy68) tK rfl (be [1, 2, 3] [6, 4, 5] [0, 1, 2, 3] 7 rfl)) ?_
    rintro _ _ ⟨_, ⟨A69, n69, c69, A70, n70, c70, rfl, rfl⟩, rfl⟩
    refine bC ([av A69 n69 c69 y68.Slots, av A70 n70 c70 y68.More, ag B7 109 [.slice A53 n53 c53, .slice A54 n54 c54, .slice A55 n55 c55, .slice A56 n56 c56, .map (some M57), iV p58], br A56 n56 c56 p56, aN bQ eT M57 p57, cm A4 n4 c4 a2, aF A53 n53 c53 p53, aF A54 n54 c54 p54, cm A55 n55 c55 p55]) rfl ?_
    obtain ⟨y71, hy71, h⟩ := aa h
    refine gD (am (fE hy71) sm rfl (mem_cons (aj (i := 0) rfl rfl) (mem_cons (aj (i := 1) rfl rfl) ae)) ef) ?_
    rintro _ _ ⟨_, ⟨A72, n72, c72, rfl, rfl⟩, rfl⟩
    refine gR (aL 0 rfl aH rfl Tryz.underlying35) ?_
    refine run ?_
    refine bp (fun m s L => ∃ p74 p75 p76 p77 p78 p79 p80 A75 n75 c75 A76 n76 c76 A77 n77 c77 A78 n78 c78 M79, minor_all_l73 N (minor_all_l51 N a2 m51) a2 p52 y71 m p74 p75 p76 p77 p78 p79 p80 = some r ∧ s = [(6, .pointer none), (7, pV B7 0), (37, .slice A4 n4 c4), (38, iV (a2.length : Int)), (39, iV p52), (46, .slice A72 n72 c72), (47, iV (y71.length : Int)), (48, iV p74)] ∧ L = [cm A4 n4 c4 a2, br A72 n72 c72 y71, aF A75 n75 c75 p75, aF A76 n76 c76 p76, cm A77 n77 c77 p77, br A78 n78 c78 p78, aN bQ eT M79 p79, ag B7 109 [.slice A75 n75 c75, .slice A76 n76 c76, .slice A77 n77 c77, .slice A78 n78 c78, .map (some M79), iV p80]]) N _ _ ⟨0, p53, p54, p55, p56, p57, p58, A53, n53, c53, A54, n54, c54, A55, n55, c55, A56, n56, c56, M57, h, rfl, rfl⟩ sA (ad [6, 0, 7, 8, 9, 4, 5, 3] 10 rfl rfl) ?_
    rintro (_ | m73) _ _ ⟨p74, p75, p76, p77, p78, p79, p80, A75, n75, c75, A76, n76, c76, A77, n77, c77, A78, n78, c78, M79, h, rfl, rfl⟩
    ·exact aD h
    rw [minor_all_l73.eq_2] at h
    refine run ?_
    refine aB ?_
    refine ay rfl (fun g81 => ?_) (fun g81 => ?_)
    ·replace h := ah g81 h
     refine run ?_
     refine aB ?_
     refine run ?_
     obtain ⟨x82, hx82, h⟩ := aa h
     obtain ⟨lx82, ux82, hx82⟩ := au hx82
     refine gR (aM 1 rfl aH rfl rfl Tryz.underlying35 dD lx82 ux82) ?_
     refine gR (bK (u := iV x82) 1 rfl aH rfl hx82 eo (fun _ _ _ h => by rw [show _ = _ from h]; rfl)) ?_
     refine run ?_
     obtain ⟨y83, hy83, h⟩ := aa h
     refine gD (bH (fg hy83) vH rfl (be [2, 3, 4] [7, 5, 6] [0, 1, 2, 3, 4] 8 rfl)) ?_
     rintro _ _ ⟨_, ⟨A84, n84, c84, A85, n85, c85, A86, n86, c86, A87, n87, c87, M88, rfl, rfl⟩, rfl⟩
     refine run ?_
     obtain ⟨q89, h⟩ := ap h
     refine gE (aR rfl rfl q89.1 q89.2) ?_
     refine run ?_
     exact ⟨m73, _, _, Nat.lt_succ_self _, ⟨p74 + 1, y83.m_.Young, y83.m_.Old, y83.kept_, y83.met_, y83.seen_, y83.next_, A84, n84, c84, A85, n85, c85, A86, n86, c86, A87, n87, c87, M88, h, rfl, rfl⟩, sA, ad [6, 7, 1, 2, 3, 4, 5, 0] 11 rfl rfl⟩
    replace h := ai g81 h
    refine run ?_
    exact ⟨_, _, ⟨p75, p76, p77, p78, p79, p80, A75, n75, c75, A76, n76, c76, A77, n77, c77, A78, n78, c78, M79, h, rfl, rfl⟩, sA, ad [0, 2, 3, 4, 5, 6, 7] 8 rfl rfl⟩
   rintro _ _ ⟨p61, p62, p63, p64, p65, p66, A61, n61, c61, A62, n62, c62, A63, n63, c63, A64, n64, c64, M65, h, rfl, rfl⟩
   refine cx ?_
   obtain ⟨q90, h⟩ := ap h
   refine gE (aR rfl rfl q90.1 q90.2) ?_
   refine run ?_
   exact ⟨m51, _, _, Nat.lt_succ_self _, ⟨p52 + 1, p61, p62, p63, p64, p65, p66, A61, n61, c61, A62, n62, c62, A63, n63, c63, A64, n64, c64, M65, h, rfl, rfl⟩, sA, ad [0, 1, 2, 3, 4, 5, 6] 7 rfl rfl⟩
  replace h := ai g59 h
  refine run ?_
  exact ⟨_, _, ⟨p53, p54, p55, p56, p57, p58, A53, n53, c53, A54, n54, c54, A55, n55, c55, A56, n56, c56, M57, h, rfl, rfl⟩, sA, ad [1, 2, 3, 4, 5, 6] 7 rfl rfl⟩
 rintro _ _ ⟨p45, p46, p47, p48, p49, p50, A45, n45, c45, A46, n46, c46, A47, n47, c47, A48, n48, c48, M49, h, rfl, rfl⟩
 refine run ?_
 obtain ⟨y91, hy91, h⟩ := aa h
 refine gD (bH (ju hy91) Db rfl (be [0, 1, 2] [5, 3, 4] [0, 1, 2] 6 rfl)) ?_
 rintro _ _ ⟨_, ⟨A92, n92, c92, A93, n93, c93, A94, n94, c94, A95, n95, c95, M96, rfl, rfl⟩, rfl⟩
 refine run ?_
 refine aS (fun s L => ∃ p98 p99 p100 p101 p102 p103 A98 n98 c98 A99 n99 c99 A100 n100 c100 A101 n101 c101 M102, nP N p98 p99 p100 p101 p102 p103 = some r ∧ s = [(6, .pointer none), (7, pV B7 0)] ∧ L = [aF A98 n98 c98 p98, aF A99 n99 c99 p99, cm A100 n100 c100 p100, br A101 n101 c101 p101, aN bQ eT M102 p102, ag B7 109 [.slice A98 n98 c98, .slice A99 n99 c99, .slice A100 n100 c100, .slice A101 n101 c101, .map (some M102), iV p103]]) ?_ ?_
 ·refine fG ?_
  refine bp (fun m s L => ∃ p105 p106 p107 p108 p109 p110 A105 n105 c105 A106 n106 c106 A107 n107 c107 A108 n108 c108 M109, minor_all_l104 N m p105 p106 p107 p108 p109 p110 = some r ∧ s = [(6, .pointer none), (7, pV B7 0)] ∧ L = [aF A105 n105 c105 p105, aF A106 n106 c106 p106, cm A107 n107 c107 p107, br A108 n108 c108 p108, aN bQ eT M109 p109, ag B7 109 [.slice A105 n105 c105, .slice A106 n106 c106, .slice A107 n107 c107, .slice A108 n108 c108, .map (some M109), iV p110]]) N _ _ ⟨y91.m_.Young, y91.m_.Old, y91.kept_, y91.met_, y91.seen_, y91.next_, A92, n92, c92, A93, n93, c93, A94, n94, c94, A95, n95, c95, M96, h, rfl, rfl⟩ sA (ad [1, 2, 3, 4, 5, 0] 9 rfl rfl) ?_
  rintro (_ | m104) _ _ ⟨p105, p106, p107, p108, p109, p110, A105, n105, c105, A106, n106, c106, A107, n107, c107, A108, n108, c108, M109, h, rfl, rfl⟩
  ·exact aD h
  rw [minor_all_l104.eq_2] at h
  refine aB ?_
  refine run ?_
  obtain ⟨y111, hy111, h⟩ := aa h
  refine gD (bH (pY hy111) GQ rfl (be [0, 1, 2] [5, 3, 4] [0, 1, 2] 6 rfl)) ?_
  rintro _ _ ⟨_, ⟨A112, n112, c112, A113, n113, c113, A114, n114, c114, A115, n115, c115, M116, rfl, rfl⟩, rfl⟩
  refine bC ([ag B7 109 [.slice A112 n112 c112, .slice A113 n113 c113, .slice A114 n114 c114, .slice A115 n115 c115, .map (some M116), iV y111.2.next_], aF A112 n112 c112 y111.2.m_.Young, aF A113 n113 c113 y111.2.m_.Old, cm A114 n114 c114 y111.2.kept_, br A115 n115 c115 y111.2.met_, aN bQ eT M116 y111.2.seen_, aF A105 n105 c105 p105, aF A106 n106 c106 p106, cm A107 n107 c107 p107]) rfl ?_
  refine run ?_
  refine ay rfl (fun g117 => ?_) (fun g117 => ?_)
  ·replace h := ah g117 h
   refine run ?_
   obtain ⟨y118, hy118, h⟩ := aa h
   refine gD (bH (ju hy118) Db rfl (be [1, 2, 3] [0, 4, 5] [1, 2, 3, 6, 7, 8] 9 rfl)) ?_
   rintro _ _ ⟨_, ⟨A119, n119, c119, A120, n120, c120, A121, n121, c121, A122, n122, c122, M123, rfl, rfl⟩, rfl⟩
   refine run ?_
   exact ⟨m104, _, _, Nat.lt_succ_self _, ⟨y118.m_.Young, y118.m_.Old, y118.kept_, y118.met_, y118.seen_, y118.next_, A119, n119, c119, A120, n120, c120, A121, n121, c121, A122, n122, c122, M123, h, rfl, rfl⟩, sA, ad [1, 2, 3, 4, 5, 0] 12 rfl rfl⟩
  replace h := ai g117 h
  refine run ?_
  exact ⟨_, _, ⟨y111.2.m_.Young, y111.2.m_.Old, y111.2.kept_, y111.2.met_, y111.2.seen_, y111.2.next_, A112, n112, c112, A113, n113, c113, A114, n114, c114, A115, n115, c115, M116, h, rfl, rfl⟩, sA, ad [1, 2, 3, 4, 5, 0] 9 rfl rfl⟩
 rintro _ _ ⟨p98, p99, p100, p101, p102, p103, A98, n98, c98, A99, n99, c99, A100, n100, c100, A101, n101, c101, M102, h, rfl, rfl⟩
 refine run ?_
 obtain rfl := aq h
 exact aQ rfl rfl (ad [5, 0, 1, 2, 3, 4] 6 rfl rfl) ⟨_, _, _, _, _, _, _, _, _, _, _, _, _, _, rfl, rfl⟩
def jG (N : Nat) (a0 : DMeeter) (p8 : (List Int)) : Option (List Int) :=
 some p8
def dZ (N : Nat) (kb9 : (List Int) → Int → Int → Int → Option (List Int)) (a0 : DMeeter) (p13 : Int) (p17 : (List Int)) (p18 : Int) (p19 : Int) : Option (List Int) :=
 bM (in64 (p13 + 1)) (kb9 p17 p18 p19 (p13 + 1))
def minor_meeter_places_l9 (N : Nat) (a0 : DMeeter) : Nat → (List Int) → Int → Int → Int → Option (List Int)
 | 0, _, _, _, _ => none
 | m9 + 1, p10, p11, p12, p13 => bif decide (p13 < (a0.met_.length : Int)) then ((aG a0.met_ p13).bind fun x20 => (bP N a0 x20).bind fun y21 => bif decide (y21.Age = 0) then (bM (in64 (2 * p11)) (bM (in64 ((2 * p11) + 1)) (bM (cD (p10.length + ([(2 * p11) + 1] : List Int).length)) (bM (in64 (p11 + 1)) (dZ N (minor_meeter_places_l9 N a0 m9) a0 p13 (p10 ++ ([(2 * p11) + 1] : List Int)) (p11 + 1) p12))))) else (bM (in64 (2 * p12)) (bM (in64 ((2 * p12) + 2)) (bM (cD (p10.length + ([(2 * p12) + 2] : List Int).length)) (bM (in64 (p12 + 1)) (dZ N (minor_meeter_places_l9 N a0 m9) a0 p13 (p10 ++ ([(2 * p12) + 2] : List Int)) p11 (p12 + 1))))))) else (jG N a0 p10)
def eR (N : Nat) (a0 : DMeeter) : Option (List Int) :=
 minor_meeter_places_l9 N a0 N [] 0 (a0.m_.Old.length : Int) 0
theorem oU {N : Nat} {a0 : DMeeter} {r : (List Int)} (h : eR N a0 = some r) : Okc Tryz.prog 99 [pV B1 0] ([aF A2 n2 c2 a0.m_.Young, aF A3 n3 c3 a0.m_.Old, cm A4 n4 c4 a0.kept_, ag B1 109 [.slice A2 n2 c2, .slice A3 n3 c3, .slice A4 n4 c4, .slice A5 n5 c5, .map (some M6), iV a0.next_], br A5 n5 c5 a0.met_, aN bQ eT M6 a0.seen_]) (fun u post => ∃ A0 n0 c0, u = .slice A0 n0 c0 ∧ post = [br A0 n0 c0 r, ag B1 109 [.slice A2 n2 c2, .slice A3 n3 c3, .slice A4 n4 c4, .slice A5 n5 c5, .map (some M6), iV a0.next_], br A5 n5 c5 a0.met_, aN bQ eT M6 a0.seen_]) := by
 refine bN Tryz.func99 rfl rfl ?_
 simp only [bc]
 refine run ?_
 refine aB ?_
 refine dB (by kernel_rfl) _ (ab _) ?_
 refine aI 0 rfl (by kernel_rfl) (az rfl) rfl rfl ?_
 refine aI 1 rfl (by kernel_rfl) (aZ rfl) rfl rfl ?_
 refine aI 2 rfl (by kernel_rfl) (jm rfl AT) rfl rfl ?_
 refine aI 3 rfl (by kernel_rfl) (cr rfl jS) rfl rfl ?_
 refine bv 4 rfl (by kernel_rfl) (aO 3 rfl rfl gU rfl) rfl rfl ?_
 refine bv 5 rfl (by kernel_rfl) (aL 1 rfl ao rfl Tryz.underlying22) rfl rfl ?_
 refine aI 6 rfl (by kernel_rfl) (bw rfl) rfl rfl ?_
 refine aI 7 rfl (by kernel_rfl) (bw rfl) rfl rfl ?_
 refine dA (by kernel_rfl) ?_
 refine lN ?_
 refine aS (fun s L => ∃ p8 A8 n8 c8, jG N a0 p8 = some r ∧ s = [(2, .slice none 0 0), (3, .slice A8 n8 c8)] ∧ L = [br A8 n8 c8 p8, aF A2 n2 c2 a0.m_.Young, aF A3 n3 c3 a0.m_.Old, cm A4 n4 c4 a0.kept_, br A5 n5 c5 a0.met_, aN bQ eT M6 a0.seen_, ag B1 109 [.slice A2 n2 c2, .slice A3 n3 c3, .slice A4 n4 c4, .slice A5 n5 c5, .map (some M6), iV a0.next_]]) ?_ ?_
 ·refine run ?_
  refine gR (aL 4 rfl aH rfl Tryz.underlying35) ?_
  refine run ?_
  refine bp (fun m s L => ∃ p10 p11 p12 p13 A10 n10 c10, minor_meeter_places_l9 N a0 m p10 p11 p12 p13 = some r ∧ s = [(0, pV B1 0), (2, .slice none 0 0), (3, .slice A10 n10 c10), (4, iV p11), (5, iV p12), (17, .slice A5 n5 c5), (18, iV (a0.met_.length : Int)), (19, iV p13)] ∧ L = [br A10 n10 c10 p10, br A5 n5 c5 a0.met_, aF A2 n2 c2 a0.m_.Young, aF A3 n3 c3 a0.m_.Old, cm A4 n4 c4 a0.kept_, aN bQ eT M6 a0.seen_, ag B1 109 [.slice A2 n2 c2, .slice A3 n3 c3, .slice A4 n4 c4, .slice A5 n5 c5, .map (some M6), iV a0.next_]]) N _ _ ⟨[], 0, (a0.m_.Old.length : Int), 0, none, 0, 0, h, rfl, rfl⟩ sA ((cH (dS .i64) 3 _).trans (ad [0, 5, 1, 2, 3, 6, 4] 7 rfl rfl)) ?_
  rintro (_ | m9) _ _ ⟨p10, p11, p12, p13, A10, n10, c10, h, rfl, rfl⟩
  ·exact aD h
  rw [minor_meeter_places_l9.eq_2] at h
  refine run ?_
  refine aB ?_
  refine ay rfl (fun g15 => ?_) (fun g15 => ?_)
  ·replace h := ah g15 h
   refine run ?_
   refine aS (fun s L => ∃ p17 p18 p19 A17 n17 c17, dZ N (minor_meeter_places_l9 N a0 m9) a0 p13 p17 p18 p19 = some r ∧ s = [(0, pV B1 0), (2, .slice none 0 0), (3, .slice A17 n17 c17), (4, iV p18), (5, iV p19), (17, .slice A5 n5 c5), (18, iV (a0.met_.length : Int)), (19, iV p13)] ∧ L = [br A17 n17 c17 p17, br A5 n5 c5 a0.met_, aF A2 n2 c2 a0.m_.Young, aF A3 n3 c3 a0.m_.Old, cm A4 n4 c4 a0.kept_, aN bQ eT M6 a0.seen_, ag B1 109 [.slice A2 n2 c2, .slice A3 n3 c3, .slice A4 n4 c4, .slice A5 n5 c5, .map (some M6), iV a0.next_]]) ?_ ?_
   ·refine run ?_
    obtain ⟨x20, hx20, h⟩ := aa h
    obtain ⟨lx20, ux20, hx20⟩ := au hx20
    refine gR (aM 1 rfl aH rfl rfl Tryz.underlying35 dD lx20 ux20) ?_
    refine gR (bK (u := iV x20) 1 rfl aH rfl hx20 eo (fun _ _ _ h => by rw [show _ = _ from h]; rfl)) ?_
    refine run ?_
    obtain ⟨y21, hy21, h⟩ := aa h
    refine gD (bH (dT hy21) tK rfl (be [2, 3, 4] [6, 1, 5] [0, 2, 3, 4] 7 rfl)) ?_
    rintro _ _ ⟨_, ⟨A22, n22, c22, A23, n23, c23, rfl, rfl⟩, rfl⟩
    refine gE (AV rfl (Fg _ _ _ _ _ _ _ _ _ _)) ?_
    refine run ?_
    refine ay rfl (fun g24 => ?_) (fun g24 => ?_)
    ·replace h := ah g24 h
     refine run ?_
     obtain ⟨q25, h⟩ := ap h
     refine gE (qh rfl rfl q25.1 q25.2) ?_
     obtain ⟨q26, h⟩ := ap h
     refine gE (aR rfl rfl q26.1 q26.2) ?_
     refine gD (bm (R := (dS .i64)) (vss := [[iV ((2 * p11) + 1)]]) (xs := [(2 * p11) + 1]) rfl (gG _) rfl rfl (fun _ _ hr => .cons rfl All2.nil)) ?_
     rintro _ _ ⟨A27, n27, c27, rfl, rfl⟩
     obtain ⟨q28, h⟩ := ap h
     refine gD (bF 6 0 rfl rfl aH rfl rfl Tryz.underlying35 Ac rfl rfl q28) ?_
     rintro _ _ ⟨A29, n29, c29, rfl, rfl⟩
     refine run ?_
     obtain ⟨q30, h⟩ := ap h
     refine gE (aR rfl rfl q30.1 q30.2) ?_
     refine run ?_
     exact ⟨_, _, ⟨p10 ++ ([(2 * p11) + 1] : List Int), p11 + 1, p12, A29, n29, c29, h, rfl, rfl⟩, sA, ad [6, 4, 7, 8, 9, 5, 3] 10 rfl rfl⟩
    replace h := ai g24 h
    refine run ?_
    obtain ⟨q31, h⟩ := ap h
    refine gE (qh rfl rfl q31.1 q31.2) ?_
    obtain ⟨q32, h⟩ := ap h
    refine gE (aR rfl rfl q32.1 q32.2) ?_
    refine gD (bm (R := (dS .i64)) (vss := [[iV ((2 * p12) + 2)]]) (xs := [(2 * p12) + 2]) rfl (gG _) rfl rfl (fun _ _ hr => .cons rfl All2.nil)) ?_
    rintro _ _ ⟨A33, n33, c33, rfl, rfl⟩
    obtain ⟨q34, h⟩ := ap h
    refine gD (bF 6 0 rfl rfl aH rfl rfl Tryz.underlying35 Ac rfl rfl q34) ?_
    rintro _ _ ⟨A35, n35, c35, rfl, rfl⟩
    refine bC ([br A33 n33 c33 ([(2 * p12) + 2] : List Int), av A22 n22 c22 y21.Slots, av A23 n23 c23 y21.More, ag B1 109 [.slice A2 n2 c2, .slice A3 n3 c3, .slice A4 n4 c4, .slice A5 n5 c5, .map (some M6), iV a0.next_], br A5 n5 c5 a0.met_, aN bQ eT M6 a0.seen_, br A35 n35 c35 (p10 ++ ([(2 * p12) + 2] : List Int)), aF A2 n2 c2 a0.m_.Young, aF A3 n3 c3 a0.m_.Old, cm A4 n4 c4 a0.kept_]) rfl ?_
    refine run ?_
    obtain ⟨q36, h⟩ := ap h
    refine gE (aR rfl rfl q36.1 q36.2) ?_
    refine run ?_
    exact ⟨_, _, ⟨p10 ++ ([(2 * p12) + 2] : List Int), p11, p12 + 1, A35, n35, c35, h, rfl, rfl⟩, sA, ad [6, 4, 7, 8, 9, 5, 3] 10 rfl rfl⟩
   rintro _ _ ⟨p17, p18, p19, A17, n17, c17, h, rfl, rfl⟩
   refine cx ?_
   obtain ⟨q37, h⟩ := ap h
   refine gE (aR rfl rfl q37.1 q37.2) ?_
   refine run ?_
   exact ⟨m9, _, _, Nat.lt_succ_self _, ⟨p17, p18, p19, p13 + 1, A17, n17, c17, h, rfl, rfl⟩, sA, ad [0, 1, 2, 3, 4, 5, 6] 7 rfl rfl⟩
  replace h := ai g15 h
  refine run ?_
  exact ⟨_, _, ⟨p10, A10, n10, c10, h, rfl, rfl⟩, sA, ad [0, 2, 3, 4, 1, 5, 6] 7 rfl rfl⟩
 rintro _ _ ⟨p8, A8, n8, c8, h, rfl, rfl⟩
 refine run ?_
 obtain rfl := aq h
 exact aQ rfl rfl (ad [0, 6, 4, 5] 7 rfl rfl) ⟨_, _, _, rfl, rfl⟩
def iY (N : Nat) (a0 : DCell) (a1 : (List Int)) (a2 : (List DValue)) : Option (DCell × (List DValue)) :=
 bif decide (a0.Kind = 8) then ((ir N a0 a1).bind fun y8 => some (y8, a2)) else (bif decide (a0.Kind = 10) then ((im N a0 a1).bind fun y12 => bM (cD (a2.length + y12.2.length)) (some (y12.1, a2 ++ y12.2))) else (some (a0, a2)))
theorem pZ {N : Nat} {a0 : DCell} {a1 : (List Int)} {a2 : (List DValue)} {r : (DCell × (List DValue))} (h : iY N a0 a1 a2 = some r) : Okc Tryz.prog 102 [.agg #[iV a0.Kind, iV a0.Shape, iV a0.Flags, iV a0.Age, .slice A1 n1 c1, .slice A2 n2 c2], .slice A3 n3 c3, .slice A4 n4 c4] ([av A1 n1 c1 a0.Slots, av A2 n2 c2 a0.More, cm A3 n3 c3 a1, bD A4 n4 c4 a2]) (fun u post => ∃ A0 n0 c0 A1 n1 c1 A2 n2 c2, u = .tuple #[.agg #[iV r.1.Kind, iV r.1.Shape, iV r.1.Flags, iV r.1.Age, .slice A0 n0 c0, .slice A1 n1 c1], .slice A2 n2 c2] ∧ post = [av A0 n0 c0 r.1.Slots, av A1 n1 c1 r.1.More, bD A2 n2 c2 r.2]) := by
 refine bN Tryz.func102 rfl rfl ?_
 simp only [bc]
 refine run ?_
 refine gD (bo rfl rfl) ?_
 rintro _ _ ⟨B5, rfl, rfl⟩
 refine gD (aJ dR rfl) ?_
 rintro _ _ ⟨B6, rfl, rfl⟩
 refine run ?_
 refine aB ?_
 refine run ?_
 refine ay rfl (fun g7 => ?_) (fun g7 => ?_)
 ·replace h := ah g7 h
  refine run ?_
  refine gR (aC (us := [iV a0.Kind, iV a0.Shape, iV a0.Flags, iV a0.Age, .slice A1 n1 c1, .slice A2 n2 c2]) 1 rfl rfl bu rfl) ?_
  refine run ?_
  obtain ⟨y8, hy8, h⟩ := aa h
  refine gD (am (nJ hy8) Cr rfl (mem_cons (aj (i := 2) rfl rfl) (mem_cons (aj (i := 3) rfl rfl) (mem_cons (aj (i := 4) rfl rfl) ae))) ln) ?_
  rintro _ _ ⟨_, ⟨A9, n9, c9, A10, n10, c10, rfl, rfl⟩, rfl⟩
  refine run ?_
  refine gO (ar (us := [iV y8.Kind, iV y8.Shape, iV y8.Flags, iV y8.Age, .slice A9 n9 c9, .slice A10 n10 c10]) (cs' := [iV y8.Kind, iV y8.Shape, iV y8.Flags, iV y8.Age, .slice A9 n9 c9, .slice A10 n10 c10]) 2 rfl rfl rfl rfl bz rfl rfl rfl) ?_
  rintro _ _ rfl
  refine run ?_
  obtain rfl := aq h
  exact eP (rs := [.cell 6 32, .tmp 7]) (vs := [.agg #[iV y8.Kind, iV y8.Shape, iV y8.Flags, iV y8.Age, .slice A9 n9 c9, .slice A10 n10 c10], .slice A4 n4 c4]) rfl (.cons (dn 2 rfl rfl bu) (.cons (ji rfl) .nil)) rfl ((bV 0 rfl).trans ((bV 1 rfl).trans (ad [0, 1, 7] 8 rfl rfl))) ⟨_, _, _, _, _, _, _, _, _, rfl, rfl⟩
 replace h := ai g7 h
 refine run ?_
 refine ay rfl (fun g11 => ?_) (fun g11 => ?_)
 ·replace h := ah g11 h
  refine run ?_
  refine gR (aC (us := [iV a0.Kind, iV a0.Shape, iV a0.Flags, iV a0.Age, .slice A1 n1 c1, .slice A2 n2 c2]) 1 rfl rfl bu rfl) ?_
  refine run ?_
  obtain ⟨y12, hy12, h⟩ := aa h
  refine gD (am (ph hy12) FA rfl (mem_cons (aj (i := 2) rfl rfl) (mem_cons (aj (i := 3) rfl rfl) (mem_cons (aj (i := 4) rfl rfl) ae))) nA) ?_
  rintro _ _ ⟨_, ⟨A13, n13, c13, A14, n14, c14, A15, n15, c15, rfl, rfl⟩, rfl⟩
  refine run ?_
  refine gD (aJ dR rfl) ?_
  rintro _ _ ⟨B16, rfl, rfl⟩
  refine gO (ar (us := [iV y12.1.Kind, iV y12.1.Shape, iV y12.1.Flags, iV y12.1.Age, .slice A13 n13 c13, .slice A14 n14 c14]) (cs' := [iV y12.1.Kind, iV y12.1.Shape, iV y12.1.Flags, iV y12.1.Age, .slice A13 n13 c13, .slice A14 n14 c14]) 0 rfl rfl rfl rfl bz rfl rfl rfl) ?_
  rintro _ _ rfl
  refine run ?_
  refine aB ?_
  refine dB (by kernel_rfl) ([ag B16 32 [iV y12.1.Kind, iV y12.1.Shape, iV y12.1.Flags, iV y12.1.Age, .slice A13 n13 c13, .slice A14 n14 c14], bD A13 n13 c13 y12.1.Slots, bD A14 n14 c14 y12.1.More, bD A15 n15 c15 y12.2, ag B5 32 [iV a0.Kind, iV a0.Shape, iV a0.Flags, iV a0.Age, .slice A1 n1 c1, .slice A2 n2 c2], av A1 n1 c1 a0.Slots, av A2 n2 c2 a0.More, cm A3 n3 c3 a1]) (ad [0, 1, 2, 3, 5, 6, 7, 8] 10 rfl rfl) ?_
  refine bv 0 rfl (by kernel_rfl) (aC (us := [iV y12.1.Kind, iV y12.1.Shape, iV y12.1.Flags, iV y12.1.Age, .slice A13 n13 c13, .slice A14 n14 c14]) 0 rfl rfl bu rfl) rfl rfl ?_
  refine aI 1 rfl (by kernel_rfl) (az rfl) rfl rfl ?_
  refine aI 2 rfl (by kernel_rfl) (az rfl) rfl rfl ?_
  obtain ⟨q17, h⟩ := ap h
  refine gt 3 rfl (by kernel_rfl) (bF 9 3 rfl rfl aH rfl rfl Tryz.underlying25 Bt rfl rfl q17) rfl rfl rfl ?_
  rintro _ _ ⟨A18, n18, c18, rfl, rfl⟩
  refine ⟨[ag B16 32 [iV y12.1.Kind, iV y12.1.Shape, iV y12.1.Flags, iV y12.1.Age, .slice A13 n13 c13, .slice A14 n14 c14], bD A13 n13 c13 y12.1.Slots, bD A14 n14 c14 y12.1.More, bD A15 n15 c15 y12.2, ag B5 32 [iV a0.Kind, iV a0.Shape, iV a0.Flags, iV a0.Age, .slice A1 n1 c1, .slice A2 n2 c2], av A1 n1 c1 a0.Slots, av A2 n2 c2 a0.More, cm A3 n3 c3 a1], ad [0, 1, 2, 3, 5, 6, 7, 8] 10 rfl rfl, ab _, ?_⟩
  refine fF ([ag B16 32 [iV y12.1.Kind, iV y12.1.Shape, iV y12.1.Flags, iV y12.1.Age, .slice A13 n13 c13, .slice A14 n14 c14], bD A13 n13 c13 y12.1.Slots, bD A14 n14 c14 y12.1.More, bD A15 n15 c15 y12.2, ag B6 32 [iV 0, iV 0, iV 0, iV 0, .slice none 0 0, .slice none 0 0], ag B5 32 [iV a0.Kind, iV a0.Shape, iV a0.Flags, iV a0.Age, .slice A1 n1 c1, .slice A2 n2 c2], av A1 n1 c1 a0.Slots, av A2 n2 c2 a0.More, cm A3 n3 c3 a1, bD A18 n18 c18 (a2 ++ y12.2)]) rfl ?_
  refine qq 4 rfl (by kernel_rfl) (ar (us := [iV y12.1.Kind, iV y12.1.Shape, iV y12.1.Flags, iV y12.1.Age, .slice A13 n13 c13, .slice A14 n14 c14]) (cs' := [iV y12.1.Kind, iV y12.1.Shape, iV y12.1.Flags, iV y12.1.Age, .slice A13 n13 c13, .slice A14 n14 c14]) 4 rfl rfl rfl rfl bz rfl rfl rfl) rfl rfl ?_
  rintro _ _ rfl
  refine ⟨[ag B16 32 [iV y12.1.Kind, iV y12.1.Shape, iV y12.1.Flags, iV y12.1.Age, .slice A13 n13 c13, .slice A14 n14 c14], bD A13 n13 c13 y12.1.Slots, bD A14 n14 c14 y12.1.More, bD A15 n15 c15 y12.2, ag B5 32 [iV a0.Kind, iV a0.Shape, iV a0.Flags, iV a0.Age, .slice A1 n1 c1, .slice A2 n2 c2], av A1 n1 c1 a0.Slots, av A2 n2 c2 a0.More, cm A3 n3 c3 a1], ad [0, 1, 2, 3, 5, 6, 7, 8] 10 rfl rfl, ab _, ?_⟩
  refine fF ([ag B16 32 [iV y12.1.Kind, iV y12.1.Shape, iV y12.1.Flags, iV y12.1.Age, .slice A13 n13 c13, .slice A14 n14 c14], bD A13 n13 c13 y12.1.Slots, bD A14 n14 c14 y12.1.More, bD A15 n15 c15 y12.2, ag B6 32 [iV y12.1.Kind, iV y12.1.Shape, iV y12.1.Flags, iV y12.1.Age, .slice A13 n13 c13, .slice A14 n14 c14], ag B5 32 [iV a0.Kind, iV a0.Shape, iV a0.Flags, iV a0.Age, .slice A1 n1 c1, .slice A2 n2 c2], av A1 n1 c1 a0.Slots, av A2 n2 c2 a0.More, cm A3 n3 c3 a1, bD A18 n18 c18 (a2 ++ y12.2)]) rfl ?_
  refine aI 5 rfl (by kernel_rfl) (bw rfl) rfl rfl ?_
  refine dA (by kernel_rfl) ?_
  refine run ?_
  obtain rfl := aq h
  exact eP (rs := [.cell 6 32, .tmp 7]) (vs := [.agg #[iV y12.1.Kind, iV y12.1.Shape, iV y12.1.Flags, iV y12.1.Age, .slice A13 n13 c13, .slice A14 n14 c14], .slice A18 n18 c18]) rfl (.cons (dn 4 rfl rfl bu) (.cons (ji rfl) .nil)) rfl ((bV 1 rfl).trans ((bV 2 rfl).trans (ad [1, 2, 9] 10 rfl rfl))) ⟨_, _, _, _, _, _, _, _, _, rfl, rfl⟩
 replace h := ai g11 h
 refine run ?_
 refine gR (aC (us := [iV a0.Kind, iV a0.Shape, iV a0.Flags, iV a0.Age, .slice A1 n1 c1, .slice A2 n2 c2]) 1 rfl rfl bu rfl) ?_
 refine run ?_
 refine gO (ar (us := [iV a0.Kind, iV a0.Shape, iV a0.Flags, iV a0.Age, .slice A1 n1 c1, .slice A2 n2 c2]) (cs' := [iV a0.Kind, iV a0.Shape, iV a0.Flags, iV a0.Age, .slice A1 n1 c1, .slice A2 n2 c2]) 0 rfl rfl rfl rfl bz rfl rfl rfl) ?_
 rintro _ _ rfl
 refine bC ([ag B6 32 [iV a0.Kind, iV a0.Shape, iV a0.Flags, iV a0.Age, .slice A1 n1 c1, .slice A2 n2 c2], ag B5 32 [iV a0.Kind, iV a0.Shape, iV a0.Flags, iV a0.Age, .slice A1 n1 c1, .slice A2 n2 c2], av A1 n1 c1 a0.Slots, av A2 n2 c2 a0.More, cm A3 n3 c3 a1, bD A4 n4 c4 a2]) rfl ?_
 refine run ?_
 obtain rfl := aq h
 exact eP (rs := [.cell 6 32, .tmp 7]) (vs := [.agg #[iV a0.Kind, iV a0.Shape, iV a0.Flags, iV a0.Age, .slice A1 n1 c1, .slice A2 n2 c2], .slice A4 n4 c4]) rfl (.cons (dn 0 rfl rfl bu) (.cons (ji rfl) .nil)) rfl (ad [2, 3, 5] 6 rfl rfl) ⟨_, _, _, _, _, _, _, _, _, rfl, rfl⟩
def mS (N : Nat) (y21 : (DCell)) (p25 : (List DValue)) (p26 : (List DValue)) : Option DCell :=
 some (⟨y21.Kind, y21.Shape, y21.Flags, y21.Age, p25, p26⟩ : DCell)
def mQ (N : Nat) (p9 : (List (Int × Int))) (p29 : (List DValue)) (y21 : (DCell)) (p44 : (List DValue)) : Option DCell :=
 mS N y21 p29 p44
def jV (N : Nat) (kb45 : (List DValue) → Int → Option DCell) (y21 : (DCell)) (p47 : Int) (p9 : (List (Int × Int))) (p29 : (List DValue)) (p50 : (List DValue)) : Option DCell :=
 bM (in64 (p47 + 1)) (kb45 p50 (p47 + 1))
def cell_Moved_l45 (N : Nat) (y21 : (DCell)) (p9 : (List (Int × Int))) (p29 : (List DValue)) : Nat → (List DValue) → Int → Option DCell
 | 0, _, _ => none
 | m45 + 1, p46, p47 => bif decide (p47 < (y21.More.length : Int)) then ((aG p46 p47).bind fun x51 => (bif (lk p9 x51.N).isSome then ((iE N x51).bind fun y54 => some y54) else (some false)).bind fun b53 => bif b53 then ((aG p46 p47).bind fun x56 => jV N (cell_Moved_l45 N y21 p9 p29 m45) y21 p47 p9 p29 (List.set p46 p47.toNat (⟨x56.Kind, (lk p9 x51.N).getD 0, x56.S⟩ : DValue))) else (jV N (cell_Moved_l45 N y21 p9 p29 m45) y21 p47 p9 p29 p46)) else (mQ N p9 p29 y21 p46)
def mR (N : Nat) (p9 : (List (Int × Int))) (y21 : (DCell)) (p29 : (List DValue)) : Option DCell :=
 cell_Moved_l45 N y21 p9 p29 N y21.More 0
def jW (N : Nat) (kb30 : (List DValue) → Int → Option DCell) (y21 : (DCell)) (p32 : Int) (p9 : (List (Int × Int))) (p35 : (List DValue)) : Option DCell :=
 bM (in64 (p32 + 1)) (kb30 p35 (p32 + 1))
def cell_Moved_l30 (N : Nat) (y21 : (DCell)) (p9 : (List (Int × Int))) : Nat → (List DValue) → Int → Option DCell
 | 0, _, _ => none
 | m30 + 1, p31, p32 => bif decide (p32 < (y21.Slots.length : Int)) then ((aG p31 p32).bind fun x36 => (bif (lk p9 x36.N).isSome then ((iE N x36).bind fun y39 => some y39) else (some false)).bind fun b38 => bif b38 then ((aG p31 p32).bind fun x41 => jW N (cell_Moved_l30 N y21 p9 m30) y21 p32 p9 (List.set p31 p32.toNat (⟨x41.Kind, (lk p9 x36.N).getD 0, x41.S⟩ : DValue))) else (jW N (cell_Moved_l30 N y21 p9 m30) y21 p32 p9 p31)) else (mR N p9 y21 p31)
def kT (N : Nat) (a0 : DCell) (p9 : (List (Int × Int))) : Option DCell :=
 (f3 N a0).bind fun y21 => cell_Moved_l30 N y21 p9 N y21.Slots 0
def io (N : Nat) (kb10 : (List (Int × Int)) → Int → Option DCell) (a1 : (List Int)) (p12 : Int) (a2 : (List Int)) (a0 : DCell) (p15 : (List (Int × Int))) : Option DCell :=
 bM (in64 (p12 + 1)) (kb10 p15 (p12 + 1))
def cell_Moved_l10 (N : Nat) (a1 : (List Int)) (a2 : (List Int)) (a0 : DCell) : Nat → (List (Int × Int)) → Int → Option DCell
 | 0, _, _ => none
 | m10 + 1, p11, p12 => bif decide (p12 < (a1.length : Int)) then ((aG a1 p12).bind fun x16 => bif (lk p11 x16).isSome then (io N (cell_Moved_l10 N a1 a2 a0 m10) a1 p12 a2 a0 p11) else (bif decide (p12 < (a2.length : Int)) then ((aG a2 p12).bind fun x19 => io N (cell_Moved_l10 N a1 a2 a0 m10) a1 p12 a2 a0 (na (na p11 x16 x16) x16 x19)) else (io N (cell_Moved_l10 N a1 a2 a0 m10) a1 p12 a2 a0 (na p11 x16 x16)))) else (kT N a0 p11)
def fu (N : Nat) (a0 : DCell) (a1 : (List Int)) (a2 : (List Int)) : Option DCell :=
 cell_Moved_l10 N a1 a2 a0 N ([] : (List (Int × Int))) 0
set_option maxHeartbeats 4000000 in
theorem nV {N : Nat} {a0 : DCell} {a1 : (List Int)} {a2 : (List Int)} {r : DCell} (h : fu N a0 a1 a2 = some r) : Okc Tryz.prog 103 [.agg #[iV a0.Kind, iV a0.Shape, iV a0.Flags, iV a0.Age, .slice A1 n1 c1, .slice A2 n2 c2], .slice A3 n3 c3, .slice A4 n4 c4] ([av A1 n1 c1 a0.Slots, av A2 n2 c2 a0.More, cm A3 n3 c3 a1, cm A4 n4 c4 a2]) (fun u post => ∃ A0 n0 c0 A1 n1 c1, u = .agg #[iV r.Kind, iV r.Shape, iV r.Flags, iV r.Age, .slice A0 n0 c0, .slice A1 n1 c1] ∧ post = [bD A0 n0 c0 r.Slots, bD A1 n1 c1 r.More]) := by
 refine bN Tryz.func103 rfl rfl ?_
 simp only [bc]
 refine run ?_
 refine gD (bo rfl rfl) ?_
 rintro _ _ ⟨B5, rfl, rfl⟩
 refine gD (aJ dR rfl) ?_
 rintro _ _ ⟨B6, rfl, rfl⟩
 refine run ?_
 refine gR (aL 4 rfl ao rfl Tryz.underlying35) ?_
 refine gD (uL (ek := bQ) (ev := iQ) rfl Tryz.underlying88) ?_
 rintro _ _ ⟨M7, rfl, rfl⟩
 refine run ?_
 refine aS (fun s L => ∃ p9, kT N a0 p9 = some r ∧ s = [(3, pV B5 0), (6, pV B6 0), (7, .map (some M7))] ∧ L = [aN bQ iQ M7 p9, av A1 n1 c1 a0.Slots, av A2 n2 c2 a0.More, ag B5 32 [iV a0.Kind, iV a0.Shape, iV a0.Flags, iV a0.Age, .slice A1 n1 c1, .slice A2 n2 c2], ag B6 32 [iV 0, iV 0, iV 0, iV 0, .slice none 0 0, .slice none 0 0]]) ?_ ?_
 ·refine run ?_
  refine gR (aL 5 rfl ao rfl Tryz.underlying35) ?_
  refine run ?_
  refine bp (fun m s L => ∃ p11 p12, cell_Moved_l10 N a1 a2 a0 m p11 p12 = some r ∧ s = [(2, .slice A4 n4 c4), (3, pV B5 0), (6, pV B6 0), (7, .map (some M7)), (21, .slice A3 n3 c3), (22, iV (a1.length : Int)), (23, iV p12)] ∧ L = [cm A4 n4 c4 a2, aN bQ iQ M7 p11, cm A3 n3 c3 a1, av A1 n1 c1 a0.Slots, av A2 n2 c2 a0.More, ag B5 32 [iV a0.Kind, iV a0.Shape, iV a0.Flags, iV a0.Age, .slice A1 n1 c1, .slice A2 n2 c2], ag B6 32 [iV 0, iV 0, iV 0, iV 0, .slice none 0 0, .slice none 0 0]]) N _ _ ⟨([] : (List (Int × Int))), 0, h, rfl, rfl⟩ sA (ad [6, 0, 5, 3, 4, 2, 1] 7 rfl rfl) ?_
  rintro (_ | m10) _ _ ⟨p11, p12, h, rfl, rfl⟩
  ·exact aD h
  rw [cell_Moved_l10.eq_2] at h
  refine run ?_
  refine aB ?_
  refine ay rfl (fun g13 => ?_) (fun g13 => ?_)
  ·replace h := ah g13 h
   refine run ?_
   refine aS (fun s L => ∃ p15, io N (cell_Moved_l10 N a1 a2 a0 m10) a1 p12 a2 a0 p15 = some r ∧ s = [(2, .slice A4 n4 c4), (3, pV B5 0), (6, pV B6 0), (7, .map (some M7)), (21, .slice A3 n3 c3), (22, iV (a1.length : Int)), (23, iV p12)] ∧ L = [cm A4 n4 c4 a2, aN bQ iQ M7 p15, cm A3 n3 c3 a1, av A1 n1 c1 a0.Slots, av A2 n2 c2 a0.More, ag B5 32 [iV a0.Kind, iV a0.Shape, iV a0.Flags, iV a0.Age, .slice A1 n1 c1, .slice A2 n2 c2], ag B6 32 [iV 0, iV 0, iV 0, iV 0, .slice none 0 0, .slice none 0 0]]) ?_ ?_
   ·refine run ?_
    obtain ⟨x16, hx16, h⟩ := aa h
    obtain ⟨lx16, ux16, hx16⟩ := au hx16
    refine gR (aM 2 rfl ao rfl rfl Tryz.underlying35 dD lx16 ux16) ?_
    refine gR (bK (u := iV x16) 2 rfl ao rfl hx16 eo (fun _ _ _ h => by rw [show _ = _ from h]; rfl)) ?_
    refine run ?_
    refine aB ?_
    refine run ?_
    refine gR (kZ (a := x16) (z := 0) 1 rfl qb rfl rfl Tryz.underlying88 (cB Tryz.underlying3) uy) ?_
    refine run ?_
    refine ay rfl (fun g17 => ?_) (fun g17 => ?_)
    ·replace h := ah g17 h
     refine run ?_
     exact ⟨_, _, ⟨p11, h, rfl, rfl⟩, sA, ad [0, 1, 2, 3, 4, 5, 6] 7 rfl rfl⟩
    replace h := ai g17 h
    refine run ?_
    refine gO (fd (a := x16) (b := x16) 1 rfl rfl rfl rfl Tryz.underlying88 (cB Tryz.underlying3)) ?_
    rintro _ _ rfl
    refine run ?_
    refine gR (aL 0 rfl ao rfl Tryz.underlying35) ?_
    refine run ?_
    refine ay rfl (fun g18 => ?_) (fun g18 => ?_)
    ·replace h := ah g18 h
     refine run ?_
     obtain ⟨x19, hx19, h⟩ := aa h
     obtain ⟨lx19, ux19, hx19⟩ := au hx19
     refine gR (aM 0 rfl ao rfl rfl Tryz.underlying35 dD lx19 ux19) ?_
     refine gR (bK (u := iV x19) 0 rfl ao rfl hx19 eo (fun _ _ _ h => by rw [show _ = _ from h]; rfl)) ?_
     refine gO (fd (a := x16) (b := x19) 1 rfl rfl rfl rfl Tryz.underlying88 (cB Tryz.underlying3)) ?_
     rintro _ _ rfl
     refine run ?_
     exact ⟨_, _, ⟨na (na p11 x16 x16) x16 x19, h, rfl, rfl⟩, sA, ad [0, 1, 2, 3, 4, 5, 6] 7 rfl rfl⟩
    replace h := ai g18 h
    refine run ?_
    exact ⟨_, _, ⟨na p11 x16 x16, h, rfl, rfl⟩, sA, ad [0, 1, 2, 3, 4, 5, 6] 7 rfl rfl⟩
   rintro _ _ ⟨p15, h, rfl, rfl⟩
   refine cx ?_
   obtain ⟨q20, h⟩ := ap h
   refine gE (aR rfl rfl q20.1 q20.2) ?_
   refine run ?_
   exact ⟨m10, _, _, Nat.lt_succ_self _, ⟨p15, p12 + 1, h, rfl, rfl⟩, sA, ad [0, 1, 2, 3, 4, 5, 6] 7 rfl rfl⟩
  replace h := ai g13 h
  refine run ?_
  exact ⟨_, _, ⟨p11, h, rfl, rfl⟩, sA, ad [1, 3, 4, 5, 6] 7 rfl rfl⟩
 rintro _ _ ⟨p9, h, rfl, rfl⟩
 refine run ?_
 refine gR (aC (us := [iV a0.Kind, iV a0.Shape, iV a0.Flags, iV a0.Age, .slice A1 n1 c1, .slice A2 n2 c2]) 3 rfl rfl bu rfl) ?_
 obtain ⟨y21, hy21, h⟩ := aa h
 refine gD (am (o5 hy21) Cu rfl (mem_cons (aj (i := 1) rfl rfl) (mem_cons (aj (i := 2) rfl rfl) ae)) mT) ?_
 rintro _ _ ⟨_, ⟨A22, n22, c22, A23, n23, c23, rfl, rfl⟩, rfl⟩
 refine gO (ar (us := [iV y21.Kind, iV y21.Shape, iV y21.Flags, iV y21.Age, .slice A22 n22 c22, .slice A23 n23 c23]) (cs' := [iV y21.Kind, iV y21.Shape, iV y21.Flags, iV y21.Age, .slice A22 n22 c22, .slice A23 n23 c23]) 5 rfl rfl rfl rfl bz rfl rfl rfl) ?_
 rintro _ _ rfl
 refine bC ([bD A22 n22 c22 y21.Slots, bD A23 n23 c23 y21.More, aN bQ iQ M7 p9, av A1 n1 c1 a0.Slots, av A2 n2 c2 a0.More, ag B5 32 [iV y21.Kind, iV y21.Shape, iV y21.Flags, iV y21.Age, .slice A22 n22 c22, .slice A23 n23 c23], ag B6 32 [iV 0, iV 0, iV 0, iV 0, .slice none 0 0, .slice none 0 0]]) rfl ?_
 refine run ?_
 refine aS (fun s L => ∃ p25 p26 A25 n25 c25 A26 n26 c26, mS N y21 p25 p26 = some r ∧ s = [(3, pV B5 0), (6, pV B6 0)] ∧ L = [bD A25 n25 c25 p25, bD A26 n26 c26 p26, ag B5 32 [iV y21.Kind, iV y21.Shape, iV y21.Flags, iV y21.Age, .slice A25 n25 c25, .slice A26 n26 c26], ag B6 32 [iV 0, iV 0, iV 0, iV 0, .slice none 0 0, .slice none 0 0]]) ?_ ?_
 ·refine run ?_
  refine gD (r8 (cs := [.slice A22 n22 c22, .slice A23 n23 c23]) rfl (Eh _ _ _ _ _ _)) ?_
  rintro _ _ ⟨B27, rfl, rfl⟩
  refine gE (nT rfl Tryz.underlying146) ?_
  refine run ?_
  refine qt 3 ?_
  refine sv ?_
  refine run ?_
  refine aB ?_
  refine iq rfl ?_
  refine run ?_
  refine aS (fun s L => ∃ p29 A29 n29 c29, mR N p9 y21 p29 = some r ∧ s = [(3, pV B5 0), (6, pV B6 0), (7, .map (some M7)), (55, .slice (some ⟨B27, 0, none⟩) 2 2), (56, iV 2), (57, iV 0)] ∧ L = [aN bQ iQ M7 p9, bD A29 n29 c29 p29, bD A23 n23 c23 y21.More, ag B5 32 [iV y21.Kind, iV y21.Shape, iV y21.Flags, iV y21.Age, .slice A29 n29 c29, .slice A23 n23 c23], ag B6 32 [iV 0, iV 0, iV 0, iV 0, .slice none 0 0, .slice none 0 0], ag B27 25 [.slice A29 n29 c29, .slice A23 n23 c23]]) ?_ ?_
  ·refine run ?_
   refine gE (mK rfl rfl Tryz.underlying146 iL (by decide) (by decide)) ?_
   refine run ?_
   refine gR (aL 1 rfl aH rfl Tryz.underlying25) ?_
   refine run ?_
   refine bp (fun m s L => ∃ p31 p32 A31 n31 c31, cell_Moved_l30 N y21 p9 m p31 p32 = some r ∧ s = [(3, pV B5 0), (6, pV B6 0), (7, .map (some M7)), (13, .slice A31 n31 c31), (55, .slice (some ⟨B27, 0, none⟩) 2 2), (56, iV 2), (57, iV 0), (61, .slice A31 n31 c31), (62, iV (y21.Slots.length : Int)), (63, iV p32)] ∧ L = [aN bQ iQ M7 p9, bD A31 n31 c31 p31, bD A23 n23 c23 y21.More, ag B5 32 [iV y21.Kind, iV y21.Shape, iV y21.Flags, iV y21.Age, .slice A31 n31 c31, .slice A23 n23 c23], ag B6 32 [iV 0, iV 0, iV 0, iV 0, .slice none 0 0, .slice none 0 0], ag B27 25 [.slice A31 n31 c31, .slice A23 n23 c23]]) N _ _ ⟨y21.Slots, 0, A22, n22, c22, h, rfl, rfl⟩ sA (ad [3, 1, 2, 6, 7, 0] 8 rfl rfl) ?_
   rintro (_ | m30) _ _ ⟨p31, p32, A31, n31, c31, h, rfl, rfl⟩
   ·exact aD h
   rw [cell_Moved_l30.eq_2] at h
   refine run ?_
   refine aB ?_
   refine ay rfl (fun g33 => ?_) (fun g33 => ?_)
   ·replace h := ah g33 h
    refine run ?_
    refine aS (fun s L => ∃ p35 A35 n35 c35, jW N (cell_Moved_l30 N y21 p9 m30) y21 p32 p9 p35 = some r ∧ s = [(3, pV B5 0), (6, pV B6 0), (7, .map (some M7)), (13, .slice A35 n35 c35), (55, .slice (some ⟨B27, 0, none⟩) 2 2), (56, iV 2), (57, iV 0), (61, .slice A35 n35 c35), (62, iV (y21.Slots.length : Int)), (63, iV p32)] ∧ L = [aN bQ iQ M7 p9, bD A35 n35 c35 p35, bD A23 n23 c23 y21.More, ag B5 32 [iV y21.Kind, iV y21.Shape, iV y21.Flags, iV y21.Age, .slice A35 n35 c35, .slice A23 n23 c23], ag B6 32 [iV 0, iV 0, iV 0, iV 0, .slice none 0 0, .slice none 0 0], ag B27 25 [.slice A35 n35 c35, .slice A23 n23 c23]]) ?_ ?_
    ·refine run ?_
     obtain ⟨x36, hx36, h⟩ := aa h
     obtain ⟨lx36, ux36, hx36⟩ := au hx36
     refine gR (aM 1 rfl aH rfl rfl Tryz.underlying25 bh lx36 ux36) ?_
     refine gR (bA (us := [iV x36.Kind, iV x36.N, .string x36.S]) 1 rfl aH rfl hx36 ca (fun _ _ _ h => by rw [show _ = _ from h]; rfl)) ?_
     refine gD (aJ f4 rfl) ?_
     rintro _ _ ⟨B37, rfl, rfl⟩
     refine run ?_
     refine gO (ar (us := [iV x36.Kind, iV x36.N, .string x36.S]) (cs' := [iV x36.Kind, iV x36.N, .string x36.S]) 0 rfl rfl rfl rfl bh rfl rfl rfl) ?_
     rintro _ _ rfl
     refine run ?_
     refine gR (kZ (a := x36.N) (z := 0) 1 rfl qb rfl rfl Tryz.underlying88 (cB Tryz.underlying3) uy) ?_
     refine run ?_
     obtain ⟨b38, hb38, h⟩ := aa h
     refine aX 3 79 b38 ?_ ?_
     ·clear h
      refine aY 76 rfl (fun g38 => ?_) (fun g38 => ?_)
      ·have h := ah g38 hb38
       refine cY (aC (us := [iV x36.Kind, iV x36.N, .string x36.S]) 0 rfl rfl ca rfl) rfl (bd g38 rfl) rfl ?_
       obtain ⟨y39, hy39, h⟩ := aa h
       refine dj (am (nU hy39) zS rfl (ae) lG) rfl (bd g38 rfl) rfl ?_
       rintro _ _ ⟨_, ⟨rfl, rfl⟩, rfl⟩
       refine run ?_
       obtain rfl := aq h
       exact ak sA (ad [0, 1, 2, 3, 4, 5, 6] 7 rfl rfl)
      have h := ai g38 hb38
      refine run ?_
      obtain rfl := aq h
      exact ak sA (ad [0, 1, 2, 3, 4, 5, 6] 7 rfl rfl)
     refine run ?_
     refine ay rfl (fun g40 => ?_) (fun g40 => ?_)
     ·replace h := ah g40 h
      refine run ?_
      obtain ⟨x41, hx41, h⟩ := aa h
      obtain ⟨lx41, ux41, hx41⟩ := au hx41
      refine gR (aM 2 rfl aH rfl rfl Tryz.underlying25 bh lx41 ux41) ?_
      refine gR (rv 2 rfl aH rfl (dC lx41 ux41) qR) ?_
      refine gO (ue (us := [iV ((lk p9 x36.N).getD 0)]) (z := (⟨x41.Kind, (lk p9 x36.N).getD 0, x41.S⟩ : DValue)) 2 rfl rfl rfl rfl dD rfl (dC lx41 ux41) rfl (fun S w vs xk hk hr ho => by obtain rfl := Option.some.inj (hk.symm.trans hx41); rw [show _ = _ from hr]; rfl)) ?_
      rintro _ _ rfl
      refine run ?_
      exact ⟨_, _, ⟨List.set p31 p32.toNat (⟨x41.Kind, (lk p9 x36.N).getD 0, x41.S⟩ : DValue), A31, n31, c31, h, rfl, rfl⟩, sA, ad [1, 2, 3, 4, 5, 6] 7 rfl rfl⟩
     replace h := ai g40 h
     refine run ?_
     exact ⟨_, _, ⟨p31, A31, n31, c31, h, rfl, rfl⟩, sA, ad [1, 2, 3, 4, 5, 6] 7 rfl rfl⟩
    rintro _ _ ⟨p35, A35, n35, c35, h, rfl, rfl⟩
    refine cx ?_
    obtain ⟨q42, h⟩ := ap h
    refine gE (aR rfl rfl q42.1 q42.2) ?_
    refine run ?_
    exact ⟨m30, _, _, Nat.lt_succ_self _, ⟨p35, p32 + 1, A35, n35, c35, h, rfl, rfl⟩, sA, ad [0, 1, 2, 3, 4, 5] 6 rfl rfl⟩
   replace h := ai g33 h
   refine run ?_
   exact ⟨_, _, ⟨p31, A31, n31, c31, h, rfl, rfl⟩, sA, ad [0, 1, 2, 3, 4, 5] 6 rfl rfl⟩
  rintro _ _ ⟨p29, A29, n29, c29, h, rfl, rfl⟩
  refine cx ?_
  refine gE (aR rfl rfl (by decide) (by decide)) ?_
  refine run ?_
  refine sv ?_
  refine run ?_
  refine aB ?_
  refine iq rfl ?_
  refine run ?_
  refine aS (fun s L => ∃ p44 A44 n44 c44, mQ N p9 p29 y21 p44 = some r ∧ s = [(3, pV B5 0), (6, pV B6 0), (7, .map (some M7)), (55, .slice (some ⟨B27, 0, none⟩) 2 2), (56, iV 2), (57, iV 1)] ∧ L = [aN bQ iQ M7 p9, bD A29 n29 c29 p29, bD A44 n44 c44 p44, ag B5 32 [iV y21.Kind, iV y21.Shape, iV y21.Flags, iV y21.Age, .slice A29 n29 c29, .slice A44 n44 c44], ag B6 32 [iV 0, iV 0, iV 0, iV 0, .slice none 0 0, .slice none 0 0], ag B27 25 [.slice A29 n29 c29, .slice A44 n44 c44]]) ?_ ?_
  ·refine run ?_
   refine gE (mK rfl rfl Tryz.underlying146 iL (by decide) (by decide)) ?_
   refine run ?_
   refine gR (aL 2 rfl aH rfl Tryz.underlying25) ?_
   refine run ?_
   refine bp (fun m s L => ∃ p46 p47 A46 n46 c46, cell_Moved_l45 N y21 p9 p29 m p46 p47 = some r ∧ s = [(3, pV B5 0), (6, pV B6 0), (7, .map (some M7)), (13, .slice A46 n46 c46), (55, .slice (some ⟨B27, 0, none⟩) 2 2), (56, iV 2), (57, iV 1), (61, .slice A46 n46 c46), (62, iV (y21.More.length : Int)), (63, iV p47)] ∧ L = [aN bQ iQ M7 p9, bD A46 n46 c46 p46, bD A29 n29 c29 p29, ag B5 32 [iV y21.Kind, iV y21.Shape, iV y21.Flags, iV y21.Age, .slice A29 n29 c29, .slice A46 n46 c46], ag B6 32 [iV 0, iV 0, iV 0, iV 0, .slice none 0 0, .slice none 0 0], ag B27 25 [.slice A29 n29 c29, .slice A46 n46 c46]]) N _ _ ⟨y21.More, 0, A23, n23, c23, h, rfl, rfl⟩ sA (ad [0, 2, 1, 3, 4, 5] 6 rfl rfl) ?_
   rintro (_ | m45) _ _ ⟨p46, p47, A46, n46, c46, h, rfl, rfl⟩
   ·exact aD h
   rw [cell_Moved_l45.eq_2] at h
   refine run ?_
   refine aB ?_
   refine ay rfl (fun g48 => ?_) (fun g48 => ?_)
   ·replace h := ah g48 h
    refine run ?_
    refine aS (fun s L => ∃ p50 A50 n50 c50, jV N (cell_Moved_l45 N y21 p9 p29 m45) y21 p47 p9 p29 p50 = some r ∧ s = [(3, pV B5 0), (6, pV B6 0), (7, .map (some M7)), (13, .slice A50 n50 c50), (55, .slice (some ⟨B27, 0, none⟩) 2 2), (56, iV 2), (57, iV 1), (61, .slice A50 n50 c50), (62, iV (y21.More.length : Int)), (63, iV p47)] ∧ L = [aN bQ iQ M7 p9, bD A50 n50 c50 p50, bD A29 n29 c29 p29, ag B5 32 [iV y21.Kind, iV y21.Shape, iV y21.Flags, iV y21.Age, .slice A29 n29 c29, .slice A50 n50 c50], ag B6 32 [iV 0, iV 0, iV 0, iV 0, .slice none 0 0, .slice none 0 0], ag B27 25 [.slice A29 n29 c29, .slice A50 n50 c50]]) ?_ ?_
    ·refine run ?_
     obtain ⟨x51, hx51, h⟩ := aa h
     obtain ⟨lx51, ux51, hx51⟩ := au hx51
     refine gR (aM 1 rfl aH rfl rfl Tryz.underlying25 bh lx51 ux51) ?_
     refine gR (bA (us := [iV x51.Kind, iV x51.N, .string x51.S]) 1 rfl aH rfl hx51 ca (fun _ _ _ h => by rw [show _ = _ from h]; rfl)) ?_
     refine gD (aJ f4 rfl) ?_
     rintro _ _ ⟨B52, rfl, rfl⟩
     refine run ?_
     refine gO (ar (us := [iV x51.Kind, iV x51.N, .string x51.S]) (cs' := [iV x51.Kind, iV x51.N, .string x51.S]) 0 rfl rfl rfl rfl bh rfl rfl rfl) ?_
     rintro _ _ rfl
     refine bC ([ag B52 38 [iV x51.Kind, iV x51.N, .string x51.S], aN bQ iQ M7 p9, bD A46 n46 c46 p46, bD A29 n29 c29 p29, ag B5 32 [iV y21.Kind, iV y21.Shape, iV y21.Flags, iV y21.Age, .slice A29 n29 c29, .slice A46 n46 c46], ag B6 32 [iV 0, iV 0, iV 0, iV 0, .slice none 0 0, .slice none 0 0], ag B27 25 [.slice A29 n29 c29, .slice A46 n46 c46]]) rfl ?_
     refine run ?_
     refine gR (kZ (a := x51.N) (z := 0) 1 rfl qb rfl rfl Tryz.underlying88 (cB Tryz.underlying3) uy) ?_
     refine run ?_
     obtain ⟨b53, hb53, h⟩ := aa h
     refine aX 3 79 b53 ?_ ?_
     ·clear h
      refine aY 76 rfl (fun g53 => ?_) (fun g53 => ?_)
      ·have h := ah g53 hb53
       refine cY (aC (us := [iV x51.Kind, iV x51.N, .string x51.S]) 0 rfl rfl ca rfl) rfl (bd g53 rfl) rfl ?_
       obtain ⟨y54, hy54, h⟩ := aa h
       refine dj (am (nU hy54) zS rfl (ae) lG) rfl (bd g53 rfl) rfl ?_
       rintro _ _ ⟨_, ⟨rfl, rfl⟩, rfl⟩
       refine run ?_
       obtain rfl := aq h
       exact ak sA (ad [0, 1, 2, 3, 4, 5, 6] 7 rfl rfl)
      have h := ai g53 hb53
      refine run ?_
      obtain rfl := aq h
      exact ak sA (ad [0, 1, 2, 3, 4, 5, 6] 7 rfl rfl)
     refine run ?_
     refine ay rfl (fun g55 => ?_) (fun g55 => ?_)
     ·replace h := ah g55 h
      refine run ?_
      obtain ⟨x56, hx56, h⟩ := aa h
      obtain ⟨lx56, ux56, hx56⟩ := au hx56
      refine gR (aM 2 rfl aH rfl rfl Tryz.underlying25 bh lx56 ux56) ?_
      refine gR (rv 2 rfl aH rfl (dC lx56 ux56) qR) ?_
      refine gO (ue (us := [iV ((lk p9 x51.N).getD 0)]) (z := (⟨x56.Kind, (lk p9 x51.N).getD 0, x56.S⟩ : DValue)) 2 rfl rfl rfl rfl dD rfl (dC lx56 ux56) rfl (fun S w vs xk hk hr ho => by obtain rfl := Option.some.inj (hk.symm.trans hx56); rw [show _ = _ from hr]; rfl)) ?_
      rintro _ _ rfl
      refine run ?_
      exact ⟨_, _, ⟨List.set p46 p47.toNat (⟨x56.Kind, (lk p9 x51.N).getD 0, x56.S⟩ : DValue), A46, n46, c46, h, rfl, rfl⟩, sA, ad [1, 2, 3, 4, 5, 6] 7 rfl rfl⟩
     replace h := ai g55 h
     refine run ?_
     exact ⟨_, _, ⟨p46, A46, n46, c46, h, rfl, rfl⟩, sA, ad [1, 2, 3, 4, 5, 6] 7 rfl rfl⟩
    rintro _ _ ⟨p50, A50, n50, c50, h, rfl, rfl⟩
    refine cx ?_
    obtain ⟨q57, h⟩ := ap h
    refine gE (aR rfl rfl q57.1 q57.2) ?_
    refine run ?_
    exact ⟨m45, _, _, Nat.lt_succ_self _, ⟨p50, p47 + 1, A50, n50, c50, h, rfl, rfl⟩, sA, ad [0, 1, 2, 3, 4, 5] 6 rfl rfl⟩
   replace h := ai g48 h
   refine run ?_
   exact ⟨_, _, ⟨p46, A46, n46, c46, h, rfl, rfl⟩, sA, ad [0, 2, 1, 3, 4, 5] 6 rfl rfl⟩
  rintro _ _ ⟨p44, A44, n44, c44, h, rfl, rfl⟩
  refine cx ?_
  refine gE (aR rfl rfl (by decide) (by decide)) ?_
  refine run ?_
  refine sv ?_
  refine run ?_
  refine aB ?_
  refine lm rfl ?_
  refine run ?_
  exact ⟨_, _, ⟨p29, p44, A29, n29, c29, A44, n44, c44, h, rfl, rfl⟩, sA, ad [1, 2, 3, 4] 6 rfl rfl⟩
 rintro _ _ ⟨p25, p26, A25, n25, c25, A26, n26, c26, h, rfl, rfl⟩
 refine run ?_
 refine gR (aC (us := [iV y21.Kind, iV y21.Shape, iV y21.Flags, iV y21.Age, .slice A25 n25 c25, .slice A26 n26 c26]) 2 rfl rfl bu rfl) ?_
 refine gO (ar (us := [iV y21.Kind, iV y21.Shape, iV y21.Flags, iV y21.Age, .slice A25 n25 c25, .slice A26 n26 c26]) (cs' := [iV y21.Kind, iV y21.Shape, iV y21.Flags, iV y21.Age, .slice A25 n25 c25, .slice A26 n26 c26]) 3 rfl rfl rfl rfl bz rfl rfl rfl) ?_
 rintro _ _ rfl
 refine run ?_
 obtain rfl := aq h
 exact eP (rs := [.cell 6 32]) (vs := [.agg #[iV y21.Kind, iV y21.Shape, iV y21.Flags, iV y21.Age, .slice A25 n25 c25, .slice A26 n26 c26]]) rfl (.cons (dn 3 rfl rfl bu) .nil) rfl (ad [0, 1] 4 rfl rfl) ⟨_, _, _, _, _, _, rfl, rfl⟩
theorem lH {r : DCell} : ∀ v post, ((fun (u : Value) (post : List Chunk) => ∃ A0 n0 c0 A1 n1 c1, u = .agg #[iV r.Kind, iV r.Shape, iV r.Flags, iV r.Age, .slice A0 n0 c0, .slice A1 n1 c1] ∧ post = [bD A0 n0 c0 r.Slots, bD A1 n1 c1 r.More])) v post → ∀ c ∈ post, cZ c := by
 rintro _ _ ⟨_, _, _, _, _, _, rfl, rfl⟩; exact mem_cons bS (mem_cons bS (ae))
def iX (N : Nat) (a0 : (List DValue)) (a1 : (List Int)) (a2 : (List Int)) : Option (List DValue) :=
 (fu N (⟨0, 0, 0, 0, [], a0⟩ : DCell) a1 a2).bind fun y4 => some y4.More
theorem pX {N : Nat} {a0 : (List DValue)} {a1 : (List Int)} {a2 : (List Int)} {r : (List DValue)} (h : iX N a0 a1 a2 = some r) : Okc Tryz.prog 106 [.slice A1 n1 c1, .slice A2 n2 c2, .slice A3 n3 c3] ([av A1 n1 c1 a0, cm A2 n2 c2 a1, cm A3 n3 c3 a2]) (fun u post => ∃ A0 n0 c0, u = .slice A0 n0 c0 ∧ post = [bD A0 n0 c0 r]) := by
 refine bN Tryz.func106 rfl rfl ?_
 simp only [bc]
 refine run ?_
 refine gE (cU rfl (FR _ _ _)) ?_
 refine run ?_
 obtain ⟨y4, hy4, h⟩ := aa h
 refine gD (am (nV hy4) zW rfl (mem_cons (E6) (mem_cons (aj (i := 0) rfl rfl) (mem_cons (aj (i := 1) rfl rfl) (mem_cons (aj (i := 2) rfl rfl) ae)))) lH) ?_
 rintro _ _ ⟨_, ⟨A5, n5, c5, A6, n6, c6, rfl, rfl⟩, rfl⟩
 refine gE (AV rfl (Ff _ _ _ _ _ _ _ _ _ _)) ?_
 refine run ?_
 obtain rfl := aq h
 exact aQ rfl rfl (ad [1] 5 rfl rfl) ⟨_, _, _, rfl, rfl⟩
theorem ot {r : (List DValue)} : ∀ v post, ((fun (u : Value) (post : List Chunk) => ∃ A0 n0 c0, u = .slice A0 n0 c0 ∧ post = [bD A0 n0 c0 r])) v post → ∀ c ∈ post, cZ c := by
 rintro _ _ ⟨_, _, _, rfl, rfl⟩; exact mem_cons bS (ae)
end Go.Proofs.YtmbaennilhdieaaGreat
namespace Go.Proofs.YtmbaennilhdieaaGreat
variable {A1 A2 A3 A4 A5 : Option Addr} {B1 M2 M6 c1 c2 c3 c4 c5 n1 n2 n3 n4 n5 : Nat}
open Go.RowKit Asn
set_option maxRecDepth 20000
def jJ (N : Nat) (a1 : (List DValue)) (y20 : ((List Int))) (y13 : (DMeeter)) (p68 : (List DValue)) (p69 : (List DCell)) (p70 : (List DCell)) : Option (DMemory × (List DValue) × (List DValue) × Int) :=
 (iX N a1 y13.met_ y20).bind fun y104 => (iX N p68 y13.met_ y20).bind fun y106 => some ((⟨p69, p70⟩ : DMemory), y104, y106, 0)
def gV (N : Nat) (kb71 : (List DValue) → Int → (List DCell) → (List DCell) → Option (DMemory × (List DValue) × (List DValue) × Int)) (y13 : (DMeeter)) (p73 : Int) (a1 : (List DValue)) (y20 : ((List Int))) (p26 : (List Int)) (p79 : (List DValue)) (p80 : (List DCell)) (p81 : (List DCell)) : Option (DMemory × (List DValue) × (List DValue) × Int) :=
 bM (in64 (p73 + 1)) (kb71 p79 (p73 + 1) p80 p81)
def minor_Collect_l71 (N : Nat) (y13 : (DMeeter)) (a1 : (List DValue)) (y20 : ((List Int))) (p26 : (List Int)) : Nat → (List DValue) → Int → (List DCell) → (List DCell) → Option (DMemory × (List DValue) × (List DValue) × Int)
 | 0, _, _, _, _ => none
 | m71 + 1, p72, p73, p74, p75 => bif decide (p73 < (y13.met_.length : Int)) then ((aG y13.met_ p73).bind fun x82 => (bP N y13 x82).bind fun y83 => (iY N y83 p26 p72).bind fun y87 => (fu N y87.1 y13.met_ y20).bind fun y91 => (aG y20 p73).bind fun x94 => (ep N x94).bind fun y95 => bif y95 then (bM (cD (p74.length + ([(⟨y91.Kind, y91.Shape, y91.Flags, 1, y91.Slots, y91.More⟩ : DCell)] : List DCell).length)) (gV N (minor_Collect_l71 N y13 a1 y20 p26 m71) y13 p73 a1 y20 p26 y87.2 (p74 ++ ([(⟨y91.Kind, y91.Shape, y91.Flags, 1, y91.Slots, y91.More⟩ : DCell)] : List DCell)) p75)) else (bM (cD (p75.length + ([(⟨y91.Kind, y91.Shape, y91.Flags, 1, y91.Slots, y91.More⟩ : DCell)] : List DCell).length)) (gV N (minor_Collect_l71 N y13 a1 y20 p26 m71) y13 p73 a1 y20 p26 y87.2 p74 (p75 ++ ([(⟨y91.Kind, y91.Shape, y91.Flags, 1, y91.Slots, y91.More⟩ : DCell)] : List DCell))))) else (jJ N a1 y20 y13 p72 p74 p75)
def jK (N : Nat) (a1 : (List DValue)) (y20 : ((List Int))) (y13 : (DMeeter)) (p25 : (List DValue)) (p26 : (List Int)) (p27 : (List DCell)) : Option (DMemory × (List DValue) × (List DValue) × Int) :=
 minor_Collect_l71 N y13 a1 y20 p26 N p25 0 [] p27
def fi (N : Nat) (kb28 : (List DValue) → (List Int) → Int → (List DCell) → Option (DMemory × (List DValue) × (List DValue) × Int)) (a0 : DMemory) (p31 : Int) (a1 : (List DValue)) (a2 : (List Int)) (y20 : ((List Int))) (p30 : (List Int)) (p32 : (List DCell)) (y13 : (DMeeter)) (p42 : (List DValue)) (p43 : Int) (p44 : Int) (p45 : Int) (p46 : Int) (p47 : (List DValue)) (p48 : (List DValue)) : Option (DMemory × (List DValue) × (List DValue) × Int) :=
 (fu N (⟨p43, p44, p45, p46, p47, p48⟩ : DCell) y13.met_ y20).bind fun y57 => bM (cD (p32.length + ([y57] : List DCell).length)) (bM (in64 (p31 + 1)) (kb28 p42 p30 (p31 + 1) (p32 ++ ([y57] : List DCell))))
def minor_Collect_l28 (N : Nat) (a0 : DMemory) (a1 : (List DValue)) (a2 : (List Int)) (y20 : ((List Int))) (y13 : (DMeeter)) : Nat → (List DValue) → (List Int) → Int → (List DCell) → Option (DMemory × (List DValue) × (List DValue) × Int)
 | 0, _, _, _, _ => none
 | m28 + 1, p29, p30, p31, p32 => bif decide (p31 < (a0.Old.length : Int)) then ((aG a0.Old p31).bind fun x36 => bM (in64 (2 * p31)) (bM (in64 ((2 * p31) + 2)) ((dt N a2 ((2 * p31) + 2)).bind fun y51 => bif y51 then ((iY N x36 p30 p29).bind fun y53 => fi N (minor_Collect_l28 N a0 a1 a2 y20 y13 m28) a0 p31 a1 a2 y20 p30 p32 y13 y53.2 y53.1.Kind y53.1.Shape y53.1.Flags y53.1.Age y53.1.Slots y53.1.More) else (fi N (minor_Collect_l28 N a0 a1 a2 y20 y13 m28) a0 p31 a1 a2 y20 p30 p32 y13 p29 x36.Kind x36.Shape x36.Flags x36.Age x36.Slots x36.More)))) else (jK N a1 y20 y13 p29 p30 p32)
def jc (N : Nat) (a0 : DMemory) (a1 : (List DValue)) (a2 : (List Int)) : Option (DMemory × (List DValue) × (List DValue) × Int) :=
 (nv N a0 a1 a2).bind fun y7 => bif !y7 then (some ((⟨[], []⟩ : DMemory), [], [], 1)) else ((lc N a0 a1 a2).bind fun y13 => (eR N y13).bind fun y20 => (el N y13).bind fun y22 => minor_Collect_l28 N a0 a1 a2 y20 y13 N [] y22 0 [])
set_option maxHeartbeats 4000000 in
theorem uh {N : Nat} {a0 : DMemory} {a1 : (List DValue)} {a2 : (List Int)} {r : (DMemory × (List DValue) × (List DValue) × Int)} (h : jc N a0 a1 a2 = some r) : Okc Tryz.prog 45 [.agg #[.slice A1 n1 c1, .slice A2 n2 c2], .slice A3 n3 c3, .slice A4 n4 c4] ([aF A1 n1 c1 a0.Young, aF A2 n2 c2 a0.Old, av A3 n3 c3 a1, cm A4 n4 c4 a2]) (fun u post => ∃ A0 n0 c0 A1 n1 c1 A2 n2 c2 A3 n3 c3, u = .tuple #[.agg #[.slice A0 n0 c0, .slice A1 n1 c1], .slice A2 n2 c2, .slice A3 n3 c3, iV r.2.2.2] ∧ post = [cz A0 n0 c0 r.1.Young, cz A1 n1 c1 r.1.Old, bD A2 n2 c2 r.2.1, bD A3 n3 c3 r.2.2.1]) := by
 refine bN Tryz.func45 rfl rfl ?_
 simp only [bc]
 refine run ?_
 refine gD (bo rfl rfl) ?_
 rintro _ _ ⟨B5, rfl, rfl⟩
 refine gD (aJ nI rfl) ?_
 rintro _ _ ⟨B6, rfl, rfl⟩
 refine run ?_
 refine aB ?_
 refine run ?_
 refine gR (aC (us := [.slice A1 n1 c1, .slice A2 n2 c2]) 1 rfl rfl cN rfl) ?_
 refine run ?_
 obtain ⟨y7, hy7, h⟩ := aa h
 refine gD (am (zt hy7) HJ rfl (mem_cons (aj (i := 2) rfl rfl) (mem_cons (aj (i := 3) rfl rfl) (mem_cons (aj (i := 4) rfl rfl) (mem_cons (aj (i := 5) rfl rfl) ae)))) wQ) ?_
 rintro _ _ ⟨_, ⟨rfl, rfl⟩, rfl⟩
 refine run ?_
 refine ay rfl (fun g8 => ?_) (fun g8 => ?_)
 ·replace h := ah g8 h
  refine run ?_
  refine gE (cU rfl (Dn)) ?_
  refine gO (ar (us := [.slice none 0 0, .slice none 0 0]) (cs' := [.slice none 0 0, .slice none 0 0]) 0 rfl rfl rfl rfl lw rfl rfl rfl) ?_
  rintro _ _ rfl
  refine run ?_
  obtain rfl := aq h
  exact eP (rs := [.cell 6 24, .tmp 7, .tmp 8, .tmp 9]) (vs := [.agg #[.slice none 0 0, .slice none 0 0], .slice none 0 0, .slice none 0 0, iV 1]) rfl (.cons (dn 0 rfl rfl cN) (.cons (ji rfl) (.cons (ji rfl) (.cons (ji rfl) .nil)))) rfl ((cH bO 32 _).trans ((cH bO 32 _).trans ((cH aw 38 _).trans ((cH aw 38 _).trans (ad [3, 2, 1, 0] 10 rfl rfl))))) ⟨_, _, _, _, _, _, _, _, _, _, _, _, rfl, rfl⟩
 replace h := ai g8 h
 refine run ?_
 refine gR (aC (us := [.slice A1 n1 c1, .slice A2 n2 c2]) 1 rfl rfl cN rfl) ?_
 refine run ?_
 obtain ⟨y13, hy13, h⟩ := aa h
 refine gD (bH (zu hy13) HI rfl (be [2, 3, 4, 5] [] [0, 1, 2, 3, 4, 5] 6 rfl)) ?_
 rintro _ _ ⟨_, ⟨B14, A15, n15, c15, A16, n16, c16, A17, n17, c17, A18, n18, c18, M19, rfl, rfl⟩, rfl⟩
 refine run ?_
 obtain ⟨y20, hy20, h⟩ := aa h
 refine gD (bH (oU hy20) HF rfl (be [1, 2, 3] [0, 4, 5] [1, 2, 3, 6, 7, 8, 9, 10, 11] 12 rfl)) ?_
 rintro _ _ ⟨_, ⟨A21, n21, c21, rfl, rfl⟩, rfl⟩
 refine bC ([br A21 n21 c21 y20, ag B14 109 [.slice A15 n15 c15, .slice A16 n16 c16, .slice A17 n17 c17, .slice A18 n18 c18, .map (some M19), iV y13.next_], br A18 n18 c18 y13.met_, aN bQ eT M19 y13.seen_, aF A15 n15 c15 y13.m_.Young, aF A16 n16 c16 y13.m_.Old, cm A17 n17 c17 y13.kept_, ag B6 24 [.slice none 0 0, .slice none 0 0], ag B5 24 [.slice A1 n1 c1, .slice A2 n2 c2], aF A1 n1 c1 a0.Young, aF A2 n2 c2 a0.Old, av A3 n3 c3 a1, cm A4 n4 c4 a2]) rfl ?_
 refine run ?_
 obtain ⟨y22, hy22, h⟩ := aa h
 refine gD (am (lb hy22) Dl rfl (mem_cons (fm (i := 1) rfl) (mem_cons (aj (i := 4) rfl rfl) (mem_cons (aj (i := 5) rfl rfl) (mem_cons (aj (i := 6) rfl rfl) (mem_cons (aK (i := 2) rfl) (mem_cons (fN (i := 3) rfl) ae)))))) jH) ?_
 rintro _ _ ⟨_, ⟨A23, n23, c23, rfl, rfl⟩, rfl⟩
 refine run ?_
 refine aS (fun s L => ∃ p25 p26 p27 A25 n25 c25 A26 n26 c26 A27 n27 c27, jK N a1 y20 y13 p25 p26 p27 = some r ∧ s = [(1, .slice A3 n3 c3), (6, pV B6 0), (7, .slice none 0 0), (8, .slice A25 n25 c25), (9, iV 0), (10, pV B14 0), (11, .slice A21 n21 c21), (12, .slice A26 n26 c26)] ∧ L = [av A3 n3 c3 a1, bD A25 n25 c25 p25, br A21 n21 c21 y20, cm A26 n26 c26 p26, cz A27 n27 c27 p27, ag B6 24 [.slice none 0 0, .slice A27 n27 c27], aF A15 n15 c15 y13.m_.Young, aF A16 n16 c16 y13.m_.Old, cm A17 n17 c17 y13.kept_, br A18 n18 c18 y13.met_, aN bQ eT M19 y13.seen_, ag B14 109 [.slice A15 n15 c15, .slice A16 n16 c16, .slice A17 n17 c17, .slice A18 n18 c18, .map (some M19), iV y13.next_]]) ?_ ?_
 ·refine run ?_
  refine gR (aO 9 rfl rfl gU rfl) ?_
  refine gR (aL 11 rfl ao rfl Tryz.underlying22) ?_
  refine run ?_
  refine bp (fun m s L => ∃ p29 p30 p31 p32 A29 n29 c29 A30 n30 c30 A32 n32 c32, minor_Collect_l28 N a0 a1 a2 y20 y13 m p29 p30 p31 p32 = some r ∧ s = [(1, .slice A3 n3 c3), (2, .slice A4 n4 c4), (6, pV B6 0), (7, .slice none 0 0), (8, .slice A29 n29 c29), (9, iV 0), (10, pV B14 0), (11, .slice A21 n21 c21), (12, .slice A30 n30 c30), (33, .slice A2 n2 c2), (34, iV (a0.Old.length : Int)), (35, iV p31)] ∧ L = [av A3 n3 c3 a1, cm A4 n4 c4 a2, bD A29 n29 c29 p29, br A21 n21 c21 y20, cm A30 n30 c30 p30, aF A2 n2 c2 a0.Old, cz A32 n32 c32 p32, ag B6 24 [.slice none 0 0, .slice A32 n32 c32], aF A15 n15 c15 y13.m_.Young, aF A16 n16 c16 y13.m_.Old, cm A17 n17 c17 y13.kept_, br A18 n18 c18 y13.met_, aN bQ eT M19 y13.seen_, ag B14 109 [.slice A15 n15 c15, .slice A16 n16 c16, .slice A17 n17 c17, .slice A18 n18 c18, .map (some M19), iV y13.next_]]) N _ _ ⟨[], y22, 0, [], none, 0, 0, A23, n23, c23, none, 0, 0, h, rfl, rfl⟩ sA ((cH aw 38 _).trans ((bV 1 rfl).trans ((cH bO 32 _).trans (ad [14, 15, 1, 3, 2, 13, 0, 10, 7, 8, 9, 5, 6, 4] 16 rfl rfl)))) ?_
  rintro (_ | m28) _ _ ⟨p29, p30, p31, p32, A29, n29, c29, A30, n30, c30, A32, n32, c32, h, rfl, rfl⟩
  ·exact aD h
  rw [minor_Collect_l28.eq_2] at h
  refine run ?_
  refine aB ?_
  refine ay rfl (fun g35 => ?_) (fun g35 => ?_)
  ·replace h := ah g35 h
   refine run ?_
   refine aB ?_
   refine run ?_
   obtain ⟨x36, hx36, h⟩ := aa h
   obtain ⟨lx36, ux36, hx36⟩ := au hx36
   refine gR (aM 5 rfl ao rfl rfl Tryz.underlying22 bz lx36 ux36) ?_
   refine va 5 rfl hx36 (db x36) ?_
   rintro _ _ ⟨A37, n37, c37, A38, n38, c38, rfl, rfl⟩
   refine gR (nm (us := [iV x36.Kind, iV x36.Shape, iV x36.Flags, iV x36.Age, .slice A37 n37 c37, .slice A38 n38 c38]) 0 rfl rfl bu rfl) ?_
   refine gD (aJ dR rfl) ?_
   rintro _ _ ⟨B40, rfl, rfl⟩
   refine run ?_
   refine gO (ar (us := [iV x36.Kind, iV x36.Shape, iV x36.Flags, iV x36.Age, .slice A37 n37 c37, .slice A38 n38 c38]) (cs' := [iV x36.Kind, iV x36.Shape, iV x36.Flags, iV x36.Age, .slice A37 n37 c37, .slice A38 n38 c38]) 0 rfl rfl rfl rfl bz rfl rfl rfl) ?_
   rintro _ _ rfl
   refine run ?_
   refine aS (fun s L => ∃ p42 p43 p44 p45 p46 p47 p48 A42 n42 c42 A47 n47 c47 A48 n48 c48, fi N (minor_Collect_l28 N a0 a1 a2 y20 y13 m28) a0 p31 a1 a2 y20 p30 p32 y13 p42 p43 p44 p45 p46 p47 p48 = some r ∧ s = [(1, .slice A3 n3 c3), (2, .slice A4 n4 c4), (6, pV B6 0), (7, .slice none 0 0), (8, .slice A42 n42 c42), (9, iV 0), (10, pV B14 0), (11, .slice A21 n21 c21), (12, .slice A30 n30 c30), (14, pV B40 0), (33, .slice A2 n2 c2), (34, iV (a0.Old.length : Int)), (35, iV p31)] ∧ L = [av A3 n3 c3 a1, cm A4 n4 c4 a2, bD A42 n42 c42 p42, br A21 n21 c21 y20, cm A30 n30 c30 p30, aF A2 n2 c2 a0.Old, cz A32 n32 c32 p32, ag B6 24 [.slice none 0 0, .slice A32 n32 c32], aF A15 n15 c15 y13.m_.Young, aF A16 n16 c16 y13.m_.Old, cm A17 n17 c17 y13.kept_, br A18 n18 c18 y13.met_, aN bQ eT M19 y13.seen_, ag B14 109 [.slice A15 n15 c15, .slice A16 n16 c16, .slice A17 n17 c17, .slice A18 n18 c18, .map (some M19), iV y13.next_], av A47 n47 c47 p47, av A48 n48 c48 p48, ag B40 32 [iV p43, iV p44, iV p45, iV p46, .slice A47 n47 c47, .slice A48 n48 c48]]) ?_ ?_
   ·refine run ?_
    obtain ⟨q49, h⟩ := ap h
    refine gE (qh rfl rfl q49.1 q49.2) ?_
    obtain ⟨q50, h⟩ := ap h
    refine gE (aR rfl rfl q50.1 q50.2) ?_
    obtain ⟨y51, hy51, h⟩ := aa h
    refine gD (am (gb hy51) vI rfl (mem_cons (aj (i := 5) rfl rfl) ae) eX) ?_
    rintro _ _ ⟨_, ⟨rfl, rfl⟩, rfl⟩
    refine run ?_
    refine ay rfl (fun g52 => ?_) (fun g52 => ?_)
    ·replace h := ah g52 h
     refine cx ?_
     refine gR (aC (us := [iV x36.Kind, iV x36.Shape, iV x36.Flags, iV x36.Age, .slice A37 n37 c37, .slice A38 n38 c38]) 0 rfl rfl bu rfl) ?_
     refine run ?_
     obtain ⟨y53, hy53, h⟩ := aa h
     refine gD (bH (pZ hy53) Dk rfl (be [2, 3, 8] [6] [0, 1, 2, 3, 4, 5, 7, 8, 9, 10, 11, 12, 13, 14, 15, 16, 17] 18 rfl)) ?_
     rintro _ _ ⟨_, ⟨A54, n54, c54, A55, n55, c55, A56, n56, c56, rfl, rfl⟩, rfl⟩
     refine run ?_
     refine gO (ar (us := [iV y53.1.Kind, iV y53.1.Shape, iV y53.1.Flags, iV y53.1.Age, .slice A54 n54 c54, .slice A55 n55 c55]) (cs' := [iV y53.1.Kind, iV y53.1.Shape, iV y53.1.Flags, iV y53.1.Age, .slice A54 n54 c54, .slice A55 n55 c55]) 3 rfl rfl rfl rfl bz rfl rfl rfl) ?_
     rintro _ _ rfl
     refine bC ([av A54 n54 c54 y53.1.Slots, av A55 n55 c55 y53.1.More, bD A56 n56 c56 y53.2, ag B40 32 [iV y53.1.Kind, iV y53.1.Shape, iV y53.1.Flags, iV y53.1.Age, .slice A54 n54 c54, .slice A55 n55 c55], pq (cA (.slice A2 n2 c2) p31.toNat 6 0) [iV x36.Kind, iV x36.Shape, iV x36.Flags, iV x36.Age, .slice A37 n37 c37, .slice A38 n38 c38], av A37 n37 c37 x36.Slots, av A38 n38 c38 x36.More, av A3 n3 c3 a1, cm A4 n4 c4 a2, br A21 n21 c21 y20, cm A30 n30 c30 p30, aF A2 n2 c2 a0.Old, cz A32 n32 c32 p32, ag B6 24 [.slice none 0 0, .slice A32 n32 c32], aF A15 n15 c15 y13.m_.Young, aF A16 n16 c16 y13.m_.Old, cm A17 n17 c17 y13.kept_, br A18 n18 c18 y13.met_, aN bQ eT M19 y13.seen_, ag B14 109 [.slice A15 n15 c15, .slice A16 n16 c16, .slice A17 n17 c17, .slice A18 n18 c18, .map (some M19), iV y13.next_]]) rfl ?_
     refine run ?_
     exact ⟨_, _, ⟨y53.2, y53.1.Kind, y53.1.Shape, y53.1.Flags, y53.1.Age, y53.1.Slots, y53.1.More, A56, n56, c56, A54, n54, c54, A55, n55, c55, h, rfl, rfl⟩, sA, ad [7, 8, 2, 9, 10, 11, 12, 13, 14, 15, 16, 17, 18, 19, 0, 1, 3] 20 rfl rfl⟩
    replace h := ai g52 h
    refine run ?_
    exact ⟨_, _, ⟨p29, x36.Kind, x36.Shape, x36.Flags, x36.Age, x36.Slots, x36.More, A29, n29, c29, A37, n37, c37, A38, n38, c38, h, rfl, rfl⟩, sA, ad [4, 5, 6, 7, 8, 9, 10, 11, 12, 13, 14, 15, 16, 17, 2, 3, 0] 18 rfl rfl⟩
   rintro _ _ ⟨p42, p43, p44, p45, p46, p47, p48, A42, n42, c42, A47, n47, c47, A48, n48, c48, h, rfl, rfl⟩
   obtain ⟨y57, hy57, h⟩ := aa h
   refine dK (t := [(1, .slice A3 n3 c3), (2, .slice A4 n4 c4), (6, pV B6 0), (7, .slice none 0 0), (8, .slice A42 n42 c42), (9, iV 0), (10, pV B14 0), (11, .slice A21 n21 c21), (12, .slice A30 n30 c30), (14, pV B40 0), (33, .slice A2 n2 c2), (34, iV (a0.Old.length : Int)), (35, iV p31)]) ?_ fU (ab _)
   refine d9 (by kernel_rfl) 10 [] [1, 9] [52, 53, 54, 55, 56, 57, 58, 59, 60, 61] [[], [0], [], [], [3], [4], [5], [], [2, 6, 7], [8]] [aV (pV B6 1),
aV (.slice A32 n32 c32),
aV (.agg #[iV p43, iV p44, iV p45, iV p46, .slice A47 n47 c47, .slice A48 n48 c48]),
aV (pV B14 0),
aV (pV B14 0),
aV (pV B14 3),
aV (.slice A18 n18 c18),
aV (.slice A21 n21 c21),
aX6 (fun (A60 : Option Addr) (n60 c60 : Nat) (A61 : Option Addr) (n61 c61 : Nat) => .agg #[iV y57.Kind, iV y57.Shape, iV y57.Flags, iV y57.Age, .slice A60 n60 c60, .slice A61 n61 c61]) (fun A60 n60 c60 A61 n61 c61 => [av A60 n60 c60 y57.Slots, av A61 n61 c61 y57.More]),
aX3 (fun (A63 : Option Addr) (n63 c63 : Nat) => .slice A63 n63 c63) (fun A63 n63 c63 => [cz A63 n63 c63 ([y57] : List DCell)])] [] (ab _) (fM) (by kernel_rfl) rfl rfl ?_ ?_ ?_
   ·exact fL
   ·refine ac rfl ?_ ?_
    ·intro A60 n60 c60 A61 n61 c61
     refine eg (bm (R := bO) (vss := [[iV y57.Kind, iV y57.Shape, iV y57.Flags, iV y57.Age, .slice A60 n60 c60, .slice A61 n61 c61]]) (xs := [y57]) rfl (tL _ _ _ _ _ _ _ _ _ _) rfl rfl (fun _ _ hr => .cons (⟨_, _, _, _, _, _, rfl, hr 0 _ rfl rfl, hr 1 _ rfl rfl⟩) All2.nil)) rfl ?_
     rintro _ _ ⟨A62, n62, c62, rfl, rfl⟩
     exact gX A62 n62 c62 (ab _)
    refine ac rfl ?_ ?_
    ·refine eg (am (nV hy57) zW rfl (mem_cons (aj (i := 14) rfl rfl) (mem_cons (aj (i := 15) rfl rfl) (mem_cons (aK (i := 11) rfl) (mem_cons (aK (i := 3) rfl) ae)))) lH) rfl ?_
     rintro _ _ ⟨_, ⟨A58, n58, c58, A59, n59, c59, rfl, rfl⟩, rfl⟩
     exact xl A58 n58 c58 A59 n59 c59 ((bV 0 rfl).trans ((bV 1 rfl).trans (ab _)))
    refine ac rfl ?_ ?_
    ·exact aW (az rfl) rfl (aA rfl (ab _))
    refine ac rfl ?_ ?_
    ·exact cc (aO 13 rfl rfl dE rfl) rfl (aA rfl (ab _))
    refine ac rfl ?_ ?_
    ·exact aW (cr rfl lg) rfl (aA rfl (ab _))
    refine ac rfl ?_ ?_
    ·exact aW (aZ rfl) rfl (aA rfl (ab _))
    refine ac rfl ?_ ?_
    ·exact aW (az rfl) rfl (aA rfl (ab _))
    refine ac rfl ?_ ?_
    ·exact cc (aC (us := [iV p43, iV p44, iV p45, iV p46, .slice A47 n47 c47, .slice A48 n48 c48]) 16 rfl rfl bu rfl) rfl (aA rfl (ab _))
    refine ac rfl ?_ ?_
    ·exact cc (aO 7 rfl rfl gU rfl) rfl (aA rfl (ab _))
    refine ac rfl ?_ ?_
    ·exact aW (cr rfl jS) rfl (aA rfl (ab _))
    exact cO
   intro A63 n63 c63
   refine ip (t := [(53, .slice A32 n32 c32), (61, .slice A63 n63 c63), (1, .slice A3 n3 c3), (2, .slice A4 n4 c4), (6, pV B6 0), (7, .slice none 0 0), (8, .slice A42 n42 c42), (9, iV 0), (10, pV B14 0), (11, .slice A21 n21 c21), (12, .slice A30 n30 c30), (14, pV B40 0), (33, .slice A2 n2 c2), (34, iV (a0.Old.length : Int)), (35, iV p31)]) (L' := [cz A63 n63 c63 ([y57] : List DCell), av A3 n3 c3 a1, cm A4 n4 c4 a2, bD A42 n42 c42 p42, br A21 n21 c21 y20, cm A30 n30 c30 p30, aF A2 n2 c2 a0.Old, cz A32 n32 c32 p32, ag B6 24 [.slice none 0 0, .slice A32 n32 c32], aF A15 n15 c15 y13.m_.Young, aF A16 n16 c16 y13.m_.Old, cm A17 n17 c17 y13.kept_, br A18 n18 c18 y13.met_, aN bQ eT M19 y13.seen_, ag B14 109 [.slice A15 n15 c15, .slice A16 n16 c16, .slice A17 n17 c17, .slice A18 n18 c18, .map (some M19), iV y13.next_], av A47 n47 c47 p47, av A48 n48 c48 p48, ag B40 32 [iV p43, iV p44, iV p45, iV p46, .slice A47 n47 c47, .slice A48 n48 c48]]) ?_ fU (ab _)
   obtain ⟨q64, h⟩ := ap h
   refine nG 10 rfl (by kernel_rfl) (bF 7 0 rfl rfl aH rfl rfl Tryz.underlying22 Af rfl rfl q64) rfl rfl rfl ?_
   rintro _ _ ⟨A65, n65, c65, rfl, rfl⟩
   refine mY 11 rfl (by kernel_rfl) (cr rfl jS) rfl rfl rfl ?_
   refine jY 12 rfl (by kernel_rfl) (ar (us := [.slice A65 n65 c65]) (cs' := [.slice none 0 0, .slice A65 n65 c65]) 8 rfl rfl rfl rfl nL rfl rfl rfl) rfl rfl ?_
   rintro _ _ rfl
   refine fT (by kernel_rfl) ?_
   refine run ?_
   obtain ⟨q66, h⟩ := ap h
   refine gE (aR rfl rfl q66.1 q66.2) ?_
   refine run ?_
   exact ⟨m28, _, _, Nat.lt_succ_self _, ⟨p42, p30, p31 + 1, p32 ++ ([y57] : List DCell), A42, n42, c42, A30, n30, c30, A65, n65, c65, h, rfl, rfl⟩, sA, ad [1, 2, 3, 4, 5, 6, 7, 8, 9, 10, 11, 12, 13, 14] 18 rfl rfl⟩
  replace h := ai g35 h
  refine run ?_
  exact ⟨_, _, ⟨p29, p30, p32, A29, n29, c29, A30, n30, c30, A32, n32, c32, h, rfl, rfl⟩, sA, ad [0, 2, 3, 4, 6, 7, 8, 9, 10, 11, 12, 13] 14 rfl rfl⟩
 rintro _ _ ⟨p25, p26, p27, A25, n25, c25, A26, n26, c26, A27, n27, c27, h, rfl, rfl⟩
 refine aS (fun s L => ∃ p68 p69 p70 A68 n68 c68 A69 n69 c69 A70 n70 c70, jJ N a1 y20 y13 p68 p69 p70 = some r ∧ s = [(1, .slice A3 n3 c3), (6, pV B6 0), (7, .slice none 0 0), (8, .slice A68 n68 c68), (9, iV 0), (10, pV B14 0), (11, .slice A21 n21 c21)] ∧ L = [av A3 n3 c3 a1, bD A68 n68 c68 p68, br A21 n21 c21 y20, cz A69 n69 c69 p69, cz A70 n70 c70 p70, ag B6 24 [.slice A69 n69 c69, .slice A70 n70 c70], aF A15 n15 c15 y13.m_.Young, aF A16 n16 c16 y13.m_.Old, cm A17 n17 c17 y13.kept_, br A18 n18 c18 y13.met_, aN bQ eT M19 y13.seen_, ag B14 109 [.slice A15 n15 c15, .slice A16 n16 c16, .slice A17 n17 c17, .slice A18 n18 c18, .map (some M19), iV y13.next_]]) ?_ ?_
 ·refine run ?_
  refine gR (aO 11 rfl rfl dE rfl) ?_
  refine gR (aL 9 rfl aH rfl Tryz.underlying35) ?_
  refine run ?_
  refine bp (fun m s L => ∃ p72 p73 p74 p75 A72 n72 c72 A74 n74 c74 A75 n75 c75, minor_Collect_l71 N y13 a1 y20 p26 m p72 p73 p74 p75 = some r ∧ s = [(1, .slice A3 n3 c3), (6, pV B6 0), (7, .slice none 0 0), (8, .slice A72 n72 c72), (9, iV 0), (10, pV B14 0), (11, .slice A21 n21 c21), (12, .slice A26 n26 c26), (68, .slice A18 n18 c18), (69, iV (y13.met_.length : Int)), (70, iV p73)] ∧ L = [av A3 n3 c3 a1, bD A72 n72 c72 p72, br A21 n21 c21 y20, cm A26 n26 c26 p26, br A18 n18 c18 y13.met_, cz A74 n74 c74 p74, cz A75 n75 c75 p75, ag B6 24 [.slice A74 n74 c74, .slice A75 n75 c75], aF A15 n15 c15 y13.m_.Young, aF A16 n16 c16 y13.m_.Old, cm A17 n17 c17 y13.kept_, aN bQ eT M19 y13.seen_, ag B14 109 [.slice A15 n15 c15, .slice A16 n16 c16, .slice A17 n17 c17, .slice A18 n18 c18, .map (some M19), iV y13.next_]]) N _ _ ⟨p25, 0, [], p27, A25, n25, c25, none, 0, 0, A27, n27, c27, h, rfl, rfl⟩ sA ((cH bO 32 _).trans (ad [1, 2, 3, 4, 10, 0, 5, 6, 7, 8, 9, 11, 12] 13 rfl rfl)) ?_
  rintro (_ | m71) _ _ ⟨p72, p73, p74, p75, A72, n72, c72, A74, n74, c74, A75, n75, c75, h, rfl, rfl⟩
  ·exact aD h
  rw [minor_Collect_l71.eq_2] at h
  refine run ?_
  refine aB ?_
  refine ay rfl (fun g77 => ?_) (fun g77 => ?_)
  ·replace h := ah g77 h
   refine run ?_
   refine aS (fun s L => ∃ p79 p80 p81 A79 n79 c79 A80 n80 c80 A81 n81 c81, gV N (minor_Collect_l71 N y13 a1 y20 p26 m71) y13 p73 a1 y20 p26 p79 p80 p81 = some r ∧ s = [(1, .slice A3 n3 c3), (6, pV B6 0), (7, .slice none 0 0), (8, .slice A79 n79 c79), (9, iV 0), (10, pV B14 0), (11, .slice A21 n21 c21), (12, .slice A26 n26 c26), (68, .slice A18 n18 c18), (69, iV (y13.met_.length : Int)), (70, iV p73)] ∧ L = [av A3 n3 c3 a1, bD A79 n79 c79 p79, br A21 n21 c21 y20, cm A26 n26 c26 p26, br A18 n18 c18 y13.met_, cz A80 n80 c80 p80, cz A81 n81 c81 p81, ag B6 24 [.slice A80 n80 c80, .slice A81 n81 c81], aF A15 n15 c15 y13.m_.Young, aF A16 n16 c16 y13.m_.Old, cm A17 n17 c17 y13.kept_, aN bQ eT M19 y13.seen_, ag B14 109 [.slice A15 n15 c15, .slice A16 n16 c16, .slice A17 n17 c17, .slice A18 n18 c18, .map (some M19), iV y13.next_]]) ?_ ?_
   ·refine run ?_
    obtain ⟨x82, hx82, h⟩ := aa h
    obtain ⟨lx82, ux82, hx82⟩ := au hx82
    refine gR (aM 4 rfl aH rfl rfl Tryz.underlying35 dD lx82 ux82) ?_
    refine gR (bK (u := iV x82) 4 rfl aH rfl hx82 eo (fun _ _ _ h => by rw [show _ = _ from h]; rfl)) ?_
    refine run ?_
    obtain ⟨y83, hy83, h⟩ := aa h
    refine gD (bH (dT hy83) tK rfl (be [8, 9, 10] [12, 4, 11] [0, 1, 2, 3, 5, 6, 7, 8, 9, 10] 13 rfl)) ?_
    rintro _ _ ⟨_, ⟨A84, n84, c84, A85, n85, c85, rfl, rfl⟩, rfl⟩
    refine bC ([av A84 n84 c84 y83.Slots, av A85 n85 c85 y83.More, ag B14 109 [.slice A15 n15 c15, .slice A16 n16 c16, .slice A17 n17 c17, .slice A18 n18 c18, .map (some M19), iV y13.next_], br A18 n18 c18 y13.met_, aN bQ eT M19 y13.seen_, av A3 n3 c3 a1, bD A72 n72 c72 p72, br A21 n21 c21 y20, cm A26 n26 c26 p26, cz A74 n74 c74 p74, cz A75 n75 c75 p75, ag B6 24 [.slice A74 n74 c74, .slice A75 n75 c75], aF A15 n15 c15 y13.m_.Young, aF A16 n16 c16 y13.m_.Old, cm A17 n17 c17 y13.kept_]) rfl ?_
    refine gD (aJ dR rfl) ?_
    rintro _ _ ⟨B86, rfl, rfl⟩
    refine gO (ar (us := [iV y83.Kind, iV y83.Shape, iV y83.Flags, iV y83.Age, .slice A84 n84 c84, .slice A85 n85 c85]) (cs' := [iV y83.Kind, iV y83.Shape, iV y83.Flags, iV y83.Age, .slice A84 n84 c84, .slice A85 n85 c85]) 0 rfl rfl rfl rfl bz rfl rfl rfl) ?_
    rintro _ _ rfl
    refine run ?_
    refine gR (aC (us := [iV y83.Kind, iV y83.Shape, iV y83.Flags, iV y83.Age, .slice A84 n84 c84, .slice A85 n85 c85]) 0 rfl rfl bu rfl) ?_
    refine run ?_
    obtain ⟨y87, hy87, h⟩ := aa h
    refine gD (bH (pZ hy87) Dk rfl (be [1, 2, 9] [7] [0, 1, 2, 3, 4, 5, 6, 8, 9, 10, 11, 12, 13, 14, 15] 16 rfl)) ?_
    rintro _ _ ⟨_, ⟨A88, n88, c88, A89, n89, c89, A90, n90, c90, rfl, rfl⟩, rfl⟩
    refine run ?_
    refine gO (ar (us := [iV y87.1.Kind, iV y87.1.Shape, iV y87.1.Flags, iV y87.1.Age, .slice A88 n88 c88, .slice A89 n89 c89]) (cs' := [iV y87.1.Kind, iV y87.1.Shape, iV y87.1.Flags, iV y87.1.Age, .slice A88 n88 c88, .slice A89 n89 c89]) 3 rfl rfl rfl rfl bz rfl rfl rfl) ?_
    rintro _ _ rfl
    refine bC ([av A88 n88 c88 y87.1.Slots, av A89 n89 c89 y87.1.More, bD A90 n90 c90 y87.2, ag B86 32 [iV y87.1.Kind, iV y87.1.Shape, iV y87.1.Flags, iV y87.1.Age, .slice A88 n88 c88, .slice A89 n89 c89], av A84 n84 c84 y83.Slots, av A85 n85 c85 y83.More, ag B14 109 [.slice A15 n15 c15, .slice A16 n16 c16, .slice A17 n17 c17, .slice A18 n18 c18, .map (some M19), iV y13.next_], br A18 n18 c18 y13.met_, aN bQ eT M19 y13.seen_, av A3 n3 c3 a1, br A21 n21 c21 y20, cm A26 n26 c26 p26, cz A74 n74 c74 p74, cz A75 n75 c75 p75, ag B6 24 [.slice A74 n74 c74, .slice A75 n75 c75], aF A15 n15 c15 y13.m_.Young, aF A16 n16 c16 y13.m_.Old, cm A17 n17 c17 y13.kept_]) rfl ?_
    refine run ?_
    refine aB ?_
    refine dK (t := [(1, .slice A3 n3 c3), (6, pV B6 0), (7, .slice none 0 0), (8, .slice A90 n90 c90), (9, iV 0), (10, pV B14 0), (11, .slice A21 n21 c21), (12, .slice A26 n26 c26), (15, iV p73), (17, pV B86 0), (68, .slice A18 n18 c18), (69, iV (y13.met_.length : Int)), (70, iV p73)]) ?_ fU (ab _)
    refine d9 (by kernel_rfl) 6 [] [0, 4, 5] [85, 86, 87, 88, 89, 90] [[], [], [1], [2], [3], []] [aV (.agg #[iV y87.1.Kind, iV y87.1.Shape, iV y87.1.Flags, iV y87.1.Age, .slice A88 n88 c88, .slice A89 n89 c89]),
aV (pV B14 0),
aV (pV B14 0),
aV (pV B14 3),
aV (.slice A18 n18 c18),
aV (.slice A21 n21 c21)] [] (ab _) (fM) (by kernel_rfl) rfl rfl ?_ ?_ ?_
    ·exact fL
    ·refine ac rfl ?_ ?_
     ·exact aW (az rfl) rfl (aA rfl (ab _))
     refine ac rfl ?_ ?_
     ·exact cc (aO 6 rfl rfl dE rfl) rfl (aA rfl (ab _))
     refine ac rfl ?_ ?_
     ·exact aW (cr rfl lg) rfl (aA rfl (ab _))
     refine ac rfl ?_ ?_
     ·exact aW (aZ rfl) rfl (aA rfl (ab _))
     refine ac rfl ?_ ?_
     ·exact aW (az rfl) rfl (aA rfl (ab _))
     refine ac rfl ?_ ?_
     ·exact cc (aC (us := [iV y87.1.Kind, iV y87.1.Shape, iV y87.1.Flags, iV y87.1.Age, .slice A88 n88 c88, .slice A89 n89 c89]) 3 rfl rfl bu rfl) rfl (aA rfl (ab _))
     exact cO
    refine ip (t := [(85, .agg #[iV y87.1.Kind, iV y87.1.Shape, iV y87.1.Flags, iV y87.1.Age, .slice A88 n88 c88, .slice A89 n89 c89]), (89, .slice A18 n18 c18), (90, .slice A21 n21 c21), (1, .slice A3 n3 c3), (6, pV B6 0), (7, .slice none 0 0), (8, .slice A90 n90 c90), (9, iV 0), (10, pV B14 0), (11, .slice A21 n21 c21), (12, .slice A26 n26 c26), (15, iV p73), (17, pV B86 0), (68, .slice A18 n18 c18), (69, iV (y13.met_.length : Int)), (70, iV p73)]) (L' := [av A88 n88 c88 y87.1.Slots, av A89 n89 c89 y87.1.More, bD A90 n90 c90 y87.2, ag B86 32 [iV y87.1.Kind, iV y87.1.Shape, iV y87.1.Flags, iV y87.1.Age, .slice A88 n88 c88, .slice A89 n89 c89], av A84 n84 c84 y83.Slots, av A85 n85 c85 y83.More, ag B14 109 [.slice A15 n15 c15, .slice A16 n16 c16, .slice A17 n17 c17, .slice A18 n18 c18, .map (some M19), iV y13.next_], br A18 n18 c18 y13.met_, aN bQ eT M19 y13.seen_, av A3 n3 c3 a1, br A21 n21 c21 y20, cm A26 n26 c26 p26, cz A74 n74 c74 p74, cz A75 n75 c75 p75, ag B6 24 [.slice A74 n74 c74, .slice A75 n75 c75], aF A15 n15 c15 y13.m_.Young, aF A16 n16 c16 y13.m_.Old, cm A17 n17 c17 y13.kept_]) ?_ fU (ab _)
    obtain ⟨y91, hy91, h⟩ := aa h
    refine nG 6 rfl (by kernel_rfl) (am (nV hy91) zW rfl (mem_cons (aj (i := 0) rfl rfl) (mem_cons (aj (i := 1) rfl rfl) (mem_cons (aK (i := 7) rfl) (mem_cons (aK (i := 10) rfl) ae)))) lH) rfl rfl rfl ?_
    rintro _ _ ⟨_, ⟨A92, n92, c92, A93, n93, c93, rfl, rfl⟩, rfl⟩
    refine jY 7 rfl (by kernel_rfl) (ar (us := [iV y91.Kind, iV y91.Shape, iV y91.Flags, iV y91.Age, .slice A92 n92 c92, .slice A93 n93 c93]) (cs' := [iV y91.Kind, iV y91.Shape, iV y91.Flags, iV y91.Age, .slice A92 n92 c92, .slice A93 n93 c93]) 5 rfl rfl rfl rfl bz rfl rfl rfl) rfl rfl ?_
    rintro _ _ rfl
    refine fT (by kernel_rfl) ?_
    refine run ?_
    refine gO (ar (us := [iV 1]) (cs' := [iV y91.Kind, iV y91.Shape, iV y91.Flags, iV 1, .slice A92 n92 c92, .slice A93 n93 c93]) 5 rfl rfl rfl rfl dD rfl rfl rfl) ?_
    rintro _ _ rfl
    refine run ?_
    obtain ⟨x94, hx94, h⟩ := aa h
    obtain ⟨lx94, ux94, hx94⟩ := au hx94
    refine gR (aM 12 rfl aH rfl rfl Tryz.underlying35 dD lx94 ux94) ?_
    refine gR (bK (u := iV x94) 12 rfl aH rfl hx94 eo (fun _ _ _ h => by rw [show _ = _ from h]; rfl)) ?_
    obtain ⟨y95, hy95, h⟩ := aa h
    refine gD (am (ig hy95) tJ rfl (ae) iA) ?_
    rintro _ _ ⟨_, ⟨rfl, rfl⟩, rfl⟩
    refine run ?_
    refine ay rfl (fun g96 => ?_) (fun g96 => ?_)
    ·replace h := ah g96 h
     refine run ?_
     refine gR (aO 16 rfl rfl gU rfl) ?_
     refine gR (aC (us := [iV y91.Kind, iV y91.Shape, iV y91.Flags, iV 1, .slice A92 n92 c92, .slice A93 n93 c93]) 5 rfl rfl bu rfl) ?_
     refine pv (bV 0 rfl) ?_
     refine bC ([av A92 n92 c92 y91.Slots, bD A93 n93 c93 y91.More, av A88 n88 c88 y87.1.Slots, av A89 n89 c89 y87.1.More, bD A90 n90 c90 y87.2, ag B86 32 [iV y91.Kind, iV y91.Shape, iV y91.Flags, iV 1, .slice A92 n92 c92, .slice A93 n93 c93], av A84 n84 c84 y83.Slots, av A85 n85 c85 y83.More, ag B14 109 [.slice A15 n15 c15, .slice A16 n16 c16, .slice A17 n17 c17, .slice A18 n18 c18, .map (some M19), iV y13.next_], br A18 n18 c18 y13.met_, aN bQ eT M19 y13.seen_, av A3 n3 c3 a1, br A21 n21 c21 y20, cm A26 n26 c26 p26, cz A74 n74 c74 p74, cz A75 n75 c75 p75, ag B6 24 [.slice A74 n74 c74, .slice A75 n75 c75], aF A15 n15 c15 y13.m_.Young, aF A16 n16 c16 y13.m_.Old, cm A17 n17 c17 y13.kept_]) rfl ?_
     refine pv (bV 1 rfl) ?_
     refine gD (bm (R := bO) (vss := [[iV y91.Kind, iV y91.Shape, iV y91.Flags, iV 1, .slice A92 n92 c92, .slice A93 n93 c93]]) (xs := [(⟨y91.Kind, y91.Shape, y91.Flags, 1, y91.Slots, y91.More⟩ : DCell)]) rfl (tL _ _ _ _ _ _ _ _ _ _) rfl rfl (fun _ _ hr => .cons (⟨_, _, _, _, _, _, rfl, hr 0 _ rfl rfl, hr 1 _ rfl rfl⟩) All2.nil)) ?_
     rintro _ _ ⟨A97, n97, c97, rfl, rfl⟩
     obtain ⟨q98, h⟩ := ap h
     refine gD (bF 15 0 rfl rfl aH rfl rfl Tryz.underlying22 Af rfl rfl q98) ?_
     rintro _ _ ⟨A99, n99, c99, rfl, rfl⟩
     refine run ?_
     refine gO (ar (us := [.slice A99 n99 c99]) (cs' := [.slice A99 n99 c99, .slice A75 n75 c75]) 17 rfl rfl rfl rfl nL rfl rfl rfl) ?_
     rintro _ _ rfl
     refine bC ([cz A97 n97 c97 ([(⟨y91.Kind, y91.Shape, y91.Flags, 1, y91.Slots, y91.More⟩ : DCell)] : List DCell), av A92 n92 c92 y91.Slots, av A93 n93 c93 y91.More, av A88 n88 c88 y87.1.Slots, av A89 n89 c89 y87.1.More, bD A90 n90 c90 y87.2, ag B86 32 [iV y91.Kind, iV y91.Shape, iV y91.Flags, iV 1, .slice A92 n92 c92, .slice A93 n93 c93], av A84 n84 c84 y83.Slots, av A85 n85 c85 y83.More, ag B14 109 [.slice A15 n15 c15, .slice A16 n16 c16, .slice A17 n17 c17, .slice A18 n18 c18, .map (some M19), iV y13.next_], br A18 n18 c18 y13.met_, aN bQ eT M19 y13.seen_, av A3 n3 c3 a1, br A21 n21 c21 y20, cm A26 n26 c26 p26, cz A99 n99 c99 (p74 ++ ([(⟨y91.Kind, y91.Shape, y91.Flags, 1, y91.Slots, y91.More⟩ : DCell)] : List DCell)), cz A75 n75 c75 p75, ag B6 24 [.slice A99 n99 c99, .slice A75 n75 c75], aF A15 n15 c15 y13.m_.Young, aF A16 n16 c16 y13.m_.Old, cm A17 n17 c17 y13.kept_]) rfl ?_
     refine run ?_
     exact ⟨_, _, ⟨y87.2, p74 ++ ([(⟨y91.Kind, y91.Shape, y91.Flags, 1, y91.Slots, y91.More⟩ : DCell)] : List DCell), p75, A90, n90, c90, A99, n99, c99, A75, n75, c75, h, rfl, rfl⟩, sA, ad [12, 5, 13, 14, 10, 15, 16, 17, 18, 19, 20, 11, 9] 21 rfl rfl⟩
    replace h := ai g96 h
    refine run ?_
    refine gR (aO 16 rfl rfl gU rfl) ?_
    refine gR (aC (us := [iV y91.Kind, iV y91.Shape, iV y91.Flags, iV 1, .slice A92 n92 c92, .slice A93 n93 c93]) 5 rfl rfl bu rfl) ?_
    refine pv (bV 0 rfl) ?_
    refine pv (bV 1 rfl) ?_
    refine gD (bm (R := bO) (vss := [[iV y91.Kind, iV y91.Shape, iV y91.Flags, iV 1, .slice A92 n92 c92, .slice A93 n93 c93]]) (xs := [(⟨y91.Kind, y91.Shape, y91.Flags, 1, y91.Slots, y91.More⟩ : DCell)]) rfl (tL _ _ _ _ _ _ _ _ _ _) rfl rfl (fun _ _ hr => .cons (⟨_, _, _, _, _, _, rfl, hr 0 _ rfl rfl, hr 1 _ rfl rfl⟩) All2.nil)) ?_
    rintro _ _ ⟨A100, n100, c100, rfl, rfl⟩
    obtain ⟨q101, h⟩ := ap h
    refine gD (bF 16 0 rfl rfl aH rfl rfl Tryz.underlying22 Af rfl rfl q101) ?_
    rintro _ _ ⟨A102, n102, c102, rfl, rfl⟩
    refine bC ([cz A100 n100 c100 ([(⟨y91.Kind, y91.Shape, y91.Flags, 1, y91.Slots, y91.More⟩ : DCell)] : List DCell), av A92 n92 c92 y91.Slots, av A93 n93 c93 y91.More, av A88 n88 c88 y87.1.Slots, av A89 n89 c89 y87.1.More, bD A90 n90 c90 y87.2, ag B86 32 [iV y91.Kind, iV y91.Shape, iV y91.Flags, iV 1, .slice A92 n92 c92, .slice A93 n93 c93], av A84 n84 c84 y83.Slots, av A85 n85 c85 y83.More, ag B14 109 [.slice A15 n15 c15, .slice A16 n16 c16, .slice A17 n17 c17, .slice A18 n18 c18, .map (some M19), iV y13.next_], br A18 n18 c18 y13.met_, aN bQ eT M19 y13.seen_, av A3 n3 c3 a1, br A21 n21 c21 y20, cm A26 n26 c26 p26, cz A74 n74 c74 p74, cz A102 n102 c102 (p75 ++ ([(⟨y91.Kind, y91.Shape, y91.Flags, 1, y91.Slots, y91.More⟩ : DCell)] : List DCell)), ag B6 24 [.slice A74 n74 c74, .slice A75 n75 c75], aF A15 n15 c15 y13.m_.Young, aF A16 n16 c16 y13.m_.Old, cm A17 n17 c17 y13.kept_]) rfl ?_
    refine run ?_
    refine gO (ar (us := [.slice A102 n102 c102]) (cs' := [.slice A74 n74 c74, .slice A102 n102 c102]) 17 rfl rfl rfl rfl nL rfl rfl rfl) ?_
    rintro _ _ rfl
    refine run ?_
    exact ⟨_, _, ⟨y87.2, p74, p75 ++ ([(⟨y91.Kind, y91.Shape, y91.Flags, 1, y91.Slots, y91.More⟩ : DCell)] : List DCell), A90, n90, c90, A74, n74, c74, A102, n102, c102, h, rfl, rfl⟩, sA, ad [12, 5, 13, 14, 10, 15, 16, 17, 18, 19, 20, 11, 9] 21 rfl rfl⟩
   rintro _ _ ⟨p79, p80, p81, A79, n79, c79, A80, n80, c80, A81, n81, c81, h, rfl, rfl⟩
   refine cx ?_
   obtain ⟨q103, h⟩ := ap h
   refine gE (aR rfl rfl q103.1 q103.2) ?_
   refine run ?_
   exact ⟨m71, _, _, Nat.lt_succ_self _, ⟨p79, p73 + 1, p80, p81, A79, n79, c79, A80, n80, c80, A81, n81, c81, h, rfl, rfl⟩, sA, ad [0, 1, 2, 3, 4, 5, 6, 7, 8, 9, 10, 11, 12] 13 rfl rfl⟩
  replace h := ai g77 h
  refine run ?_
  exact ⟨_, _, ⟨p72, p74, p75, A72, n72, c72, A74, n74, c74, A75, n75, c75, h, rfl, rfl⟩, sA, ad [0, 1, 2, 5, 6, 7, 8, 9, 10, 4, 11, 12] 13 rfl rfl⟩
 rintro _ _ ⟨p68, p69, p70, A68, n68, c68, A69, n69, c69, A70, n70, c70, h, rfl, rfl⟩
 refine aB ?_
 refine dB (by kernel_rfl) _ (ab _) ?_
 refine bv 0 rfl (by kernel_rfl) (aC (us := [.slice A69 n69 c69, .slice A70 n70 c70]) 5 rfl rfl cN rfl) rfl rfl ?_
 refine aI 1 rfl (by kernel_rfl) (az rfl) rfl rfl ?_
 refine aI 2 rfl (by kernel_rfl) (az rfl) rfl rfl ?_
 refine aI 3 rfl (by kernel_rfl) (aZ rfl) rfl rfl ?_
 refine aI 4 rfl (by kernel_rfl) (cr rfl lg) rfl rfl ?_
 refine bv 5 rfl (by kernel_rfl) (aO 11 rfl rfl dE rfl) rfl rfl ?_
 refine aI 6 rfl (by kernel_rfl) (az rfl) rfl rfl ?_
 refine aI 8 rfl (by kernel_rfl) (az rfl) rfl rfl ?_
 refine aI 9 rfl (by kernel_rfl) (az rfl) rfl rfl ?_
 refine aI 10 rfl (by kernel_rfl) (aZ rfl) rfl rfl ?_
 refine aI 11 rfl (by kernel_rfl) (cr rfl lg) rfl rfl ?_
 refine bv 12 rfl (by kernel_rfl) (aO 11 rfl rfl dE rfl) rfl rfl ?_
 refine aI 13 rfl (by kernel_rfl) (az rfl) rfl rfl ?_
 obtain ⟨y104, hy104, h⟩ := aa h
 refine gt 7 rfl (by kernel_rfl) (am (pX hy104) Dj rfl (mem_cons (aj (i := 0) rfl rfl) (mem_cons (aK (i := 9) rfl) (mem_cons (aK (i := 2) rfl) ae))) ot) rfl rfl rfl ?_
 rintro _ _ ⟨_, ⟨A105, n105, c105, rfl, rfl⟩, rfl⟩
 refine ⟨[av A3 n3 c3 a1, bD A68 n68 c68 p68, br A21 n21 c21 y20, cz A69 n69 c69 p69, cz A70 n70 c70 p70, ag B6 24 [.slice A69 n69 c69, .slice A70 n70 c70], aF A15 n15 c15 y13.m_.Young, aF A16 n16 c16 y13.m_.Old, cm A17 n17 c17 y13.kept_, br A18 n18 c18 y13.met_, aN bQ eT M19 y13.seen_, ag B14 109 [.slice A15 n15 c15, .slice A16 n16 c16, .slice A17 n17 c17, .slice A18 n18 c18, .map (some M19), iV y13.next_]], ad [1, 2, 3, 4, 5, 6, 7, 8, 9, 10, 11, 12] 13 rfl rfl, ab _, ?_⟩
 obtain ⟨y106, hy106, h⟩ := aa h
 refine gt 14 rfl (by kernel_rfl) (am (pX hy106) Dj rfl (mem_cons (aK (i := 2) rfl) (mem_cons (aK (i := 10) rfl) (mem_cons (aK (i := 3) rfl) ae))) ot) rfl rfl rfl ?_
 rintro _ _ ⟨_, ⟨A107, n107, c107, rfl, rfl⟩, rfl⟩
 refine ⟨[av A3 n3 c3 a1, bD A68 n68 c68 p68, br A21 n21 c21 y20, cz A69 n69 c69 p69, cz A70 n70 c70 p70, ag B6 24 [.slice A69 n69 c69, .slice A70 n70 c70], aF A15 n15 c15 y13.m_.Young, aF A16 n16 c16 y13.m_.Old, cm A17 n17 c17 y13.kept_, br A18 n18 c18 y13.met_, aN bQ eT M19 y13.seen_, ag B14 109 [.slice A15 n15 c15, .slice A16 n16 c16, .slice A17 n17 c17, .slice A18 n18 c18, .map (some M19), iV y13.next_]], ad [2, 3, 4, 5, 6, 7, 8, 9, 10, 11, 12, 13] 14 rfl rfl, ab _, ?_⟩
 refine qq 15 rfl (by kernel_rfl) (ar (us := [.slice A69 n69 c69, .slice A70 n70 c70]) (cs' := [.slice A69 n69 c69, .slice A70 n70 c70]) 7 rfl rfl rfl rfl lw rfl rfl rfl) rfl rfl ?_
 rintro _ _ rfl
 refine ⟨[av A3 n3 c3 a1, bD A68 n68 c68 p68, br A21 n21 c21 y20, cz A69 n69 c69 p69, cz A70 n70 c70 p70, ag B6 24 [.slice A69 n69 c69, .slice A70 n70 c70], aF A15 n15 c15 y13.m_.Young, aF A16 n16 c16 y13.m_.Old, cm A17 n17 c17 y13.kept_, br A18 n18 c18 y13.met_, aN bQ eT M19 y13.seen_, ag B14 109 [.slice A15 n15 c15, .slice A16 n16 c16, .slice A17 n17 c17, .slice A18 n18 c18, .map (some M19), iV y13.next_]], ad [2, 3, 4, 5, 6, 7, 8, 9, 10, 11, 12, 13] 14 rfl rfl, ab _, ?_⟩
 refine fF ([bD A107 n107 c107 y106, bD A105 n105 c105 y104, av A3 n3 c3 a1, bD A68 n68 c68 p68, br A21 n21 c21 y20, cz A69 n69 c69 p69, cz A70 n70 c70 p70, ag B6 24 [.slice A69 n69 c69, .slice A70 n70 c70], aF A15 n15 c15 y13.m_.Young, aF A16 n16 c16 y13.m_.Old, cm A17 n17 c17 y13.kept_, br A18 n18 c18 y13.met_, aN bQ eT M19 y13.seen_, ag B14 109 [.slice A15 n15 c15, .slice A16 n16 c16, .slice A17 n17 c17, .slice A18 n18 c18, .map (some M19), iV y13.next_]]) rfl ?_
 refine aI 16 rfl (by kernel_rfl) (bw rfl) rfl rfl ?_
 refine aI 17 rfl (by kernel_rfl) (bw rfl) rfl rfl ?_
 refine aI 18 rfl (by kernel_rfl) (bw rfl) rfl rfl ?_
 refine dA (by kernel_rfl) ?_
 refine run ?_
 obtain rfl := aq h
 exact eP (rs := [.cell 6 24, .tmp 7, .tmp 8, .tmp 9]) (vs := [.agg #[.slice A69 n69 c69, .slice A70 n70 c70], .slice A105 n105 c105, .slice A107 n107 c107, iV 0]) rfl (.cons (dn 7 rfl rfl cN) (.cons (ji rfl) (.cons (ji rfl) (.cons (ji rfl) .nil)))) rfl (ad [5, 6, 1, 0] 14 rfl rfl) ⟨_, _, _, _, _, _, _, _, _, _, _, _, rfl, rfl⟩
end Go.Proofs.YtmbaennilhdieaaGreat
namespace Go.Proofs.YtmbaennilhdieaaGreat
variable {A1 A2 A3 A4 A5 : Option Addr} {B1 M2 M6 c1 c2 c3 c4 c5 n1 n2 n3 n4 n5 : Nat}
open Go.RowKit Asn
set_option maxRecDepth 20000
def oM (N : Nat) : Option DSet :=
 some (⟨([] : (List (Int × Bool)))⟩ : DSet)
theorem xE {N : Nat} {r : DSet} (h : oM N = some r) : Okc Tryz.prog 43 [] ([]) (fun u post => ∃ B0 M1, u = pV B0 0 ∧ post = [ag B0 113 [.map (some M1)], aN bQ eT M1 r.at_]) := by
 refine bN Tryz.func43 rfl rfl ?_
 simp only [bc]
 refine run ?_
 refine gD (kq (ek := bQ) (ev := eT)) ?_
 rintro _ _ ⟨M1, rfl, rfl⟩
 refine gE (cU rfl (Ei _)) ?_
 refine gD (bo rfl rfl) ?_
 rintro _ _ ⟨B2, rfl, rfl⟩
 refine run ?_
 obtain rfl := aq h
 exact aQ rfl rfl (ad [0, 1] 2 rfl rfl) ⟨_, _, rfl, rfl⟩
def jk (N : Nat) (a0 : DSet) : Option DSet :=
 some (⟨[]⟩ : DSet)
theorem rb {N : Nat} {a0 : DSet} {r : DSet} (h : jk N a0 = some r) : Okc Tryz.prog 97 [pV B1 0] ([ag B1 113 [.map (some M2)], aN bQ eT M2 a0.at_]) (fun u post => ∃ M0, u = .tuple #[] ∧ post = [ag B1 113 [.map (some M0)], aN bQ eT M0 r.at_]) := by
 refine bN Tryz.func97 rfl rfl ?_
 simp only [bc]
 refine run ?_
 refine gE (D7 rfl Tryz.underlying54) ?_
 refine run ?_
 refine iq rfl ?_
 refine run ?_
 refine gO (EW 1 rfl rfl Tryz.underlying107) ?_
 rintro _ _ rfl
 refine nH ?_
 obtain rfl := aq h
 exact jo rfl (ad [0, 1] 2 rfl rfl) ⟨_, rfl, rfl⟩
def oL (N : Nat) (a0 : Int) : Option Bool :=
 (bif decide (0 < a0) then (some (decide (a0.tmod 2 = 0))) else (some false)).bind fun b1 => some b1
theorem xD {N : Nat} {a0 : Int} {r : Bool} (h : oL N a0 = some r) : Okc Tryz.prog 157 [iV a0] ([]) (fun u post => u = .bool r ∧ post = []) := by
 refine bN Tryz.func157 rfl rfl ?_
 simp only [bc]
 refine run ?_
 obtain ⟨b1, hb1, h⟩ := aa h
 refine aX 4 9 b1 ?_ ?_
 ·clear h
  refine aY 5 rfl (fun g1 => ?_) (fun g1 => ?_)
  ·have h := ah g1 hb1
   refine run ?_
   refine ri (sc rfl rfl (by decide)) rfl (bd g1 rfl) rfl ?_
   refine run ?_
   obtain rfl := aq h
   exact ak sA (ad [] 0 rfl rfl)
  have h := ai g1 hb1
  refine run ?_
  obtain rfl := aq h
  exact ak sA (ad [] 0 rfl rfl)
 refine run ?_
 obtain rfl := aq h
 exact aQ rfl rfl (ad [] 0 rfl rfl) ⟨rfl, rfl⟩
theorem vj {r : Bool} : ∀ v post, ((fun (u : Value) (post : List Chunk) => u = .bool r ∧ post = [])) v post → ∀ c ∈ post, cZ c := by
 rintro _ _ ⟨rfl, rfl⟩; exact ae
def ic (N : Nat) (a0 : Int) : Option Bool :=
 (bif decide (0 < a0) then (some (decide (a0.tmod 2 = 1))) else (some false)).bind fun b1 => some b1
theorem pa {N : Nat} {a0 : Int} {r : Bool} (h : ic N a0 = some r) : Okc Tryz.prog 190 [iV a0] ([]) (fun u post => u = .bool r ∧ post = []) := by
 refine bN Tryz.func190 rfl rfl ?_
 simp only [bc]
 refine run ?_
 obtain ⟨b1, hb1, h⟩ := aa h
 refine aX 4 9 b1 ?_ ?_
 ·clear h
  refine aY 5 rfl (fun g1 => ?_) (fun g1 => ?_)
  ·have h := ah g1 hb1
   refine run ?_
   refine ri (sc rfl rfl (by decide)) rfl (bd g1 rfl) rfl ?_
   refine run ?_
   obtain rfl := aq h
   exact ak sA (ad [] 0 rfl rfl)
  have h := ai g1 hb1
  refine run ?_
  obtain rfl := aq h
  exact ak sA (ad [] 0 rfl rfl)
 refine run ?_
 obtain rfl := aq h
 exact aQ rfl rfl (ad [] 0 rfl rfl) ⟨rfl, rfl⟩
def jB (N : Nat) (a0 : DCell) : Option Bool :=
 (dQ N a0).bind fun y4 => (bi N y4 (fun x => ic N x)).bind fun y6 => (bif y6 then (some true) else ((fC N a0).bind fun y8 => (bi N y8 (fun x => ic N x)).bind fun y10 => some y10)).bind fun b7 => some b7
theorem vl {N : Nat} {a0 : DCell} {r : Bool} (h : jB N a0 = some r) : Okc Tryz.prog 158 [.agg #[iV a0.Kind, iV a0.Shape, iV a0.Flags, iV a0.Age, .slice A1 n1 c1, .slice A2 n2 c2]] ([av A1 n1 c1 a0.Slots, av A2 n2 c2 a0.More]) (fun u post => u = .bool r ∧ post = []) := by
 refine bN Tryz.func158 rfl rfl ?_
 simp only [bc]
 refine run ?_
 refine gD (bo rfl rfl) ?_
 rintro _ _ ⟨B3, rfl, rfl⟩
 refine run ?_
 refine gR (aC (us := [iV a0.Kind, iV a0.Shape, iV a0.Flags, iV a0.Age, .slice A1 n1 c1, .slice A2 n2 c2]) 0 rfl rfl bu rfl) ?_
 obtain ⟨y4, hy4, h⟩ := aa h
 refine gD (am (fE hy4) sm rfl (mem_cons (aj (i := 1) rfl rfl) (mem_cons (aj (i := 2) rfl rfl) ae)) ef) ?_
 rintro _ _ ⟨_, ⟨A5, n5, c5, rfl, rfl⟩, rfl⟩
 obtain ⟨y6, hy6, h⟩ := aa h
 refine gD (am (cC hy6 ⟨ae, 190, #[], #[], rfl, C7, fun _ _ hh => pa hh⟩) so rfl (mem_cons (aK (i := 0) rfl) ae) cn) ?_
 rintro _ _ ⟨_, ⟨rfl, rfl⟩, rfl⟩
 refine run ?_
 obtain ⟨b7, hb7, h⟩ := aa h
 refine aX 4 10 b7 ?_ ?_
 ·clear h
  refine aY 6 rfl (fun g7 => ?_) (fun g7 => ?_)
  ·have h := ah g7 hb7
   refine run ?_
   obtain rfl := aq h
   exact ak sA (ad [0, 1, 2, 3] 4 rfl rfl)
  have h := ai g7 hb7
  refine cY (aC (us := [iV a0.Kind, iV a0.Shape, iV a0.Flags, iV a0.Age, .slice A1 n1 c1, .slice A2 n2 c2]) 1 rfl rfl bu rfl) rfl (gm g7 rfl) rfl ?_
  obtain ⟨y8, hy8, h⟩ := aa h
  refine dj (am (jU hy8) zP rfl (mem_cons (aj (i := 2) rfl rfl) (mem_cons (aj (i := 3) rfl rfl) ae)) iF) rfl (gm g7 rfl) rfl ?_
  rintro _ _ ⟨_, ⟨A9, n9, c9, rfl, rfl⟩, rfl⟩
  obtain ⟨y10, hy10, h⟩ := aa h
  refine dj (am (cC hy10 ⟨ae, 190, #[], #[], rfl, C7, fun _ _ hh => pa hh⟩) so rfl (mem_cons (aK (i := 0) rfl) ae) cn) rfl (gm g7 rfl) rfl ?_
  rintro _ _ ⟨_, ⟨rfl, rfl⟩, rfl⟩
  refine run ?_
  obtain rfl := aq h
  exact ak sA (ad [1, 2, 3, 4] 5 rfl rfl)
 refine run ?_
 obtain rfl := aq h
 exact aQ rfl rfl (ad [] 4 rfl rfl) ⟨rfl, rfl⟩
theorem sK {r : Bool} : ∀ v post, ((fun (u : Value) (post : List Chunk) => u = .bool r ∧ post = [])) v post → ∀ c ∈ post, cZ c := by
 rintro _ _ ⟨rfl, rfl⟩; exact ae
def iM (N : Nat) (a1 : Int) (a0 : DSet) : Option (Bool × DSet) :=
 some (true, (⟨na a0.at_ a1 true⟩ : DSet))
def jC (N : Nat) (a0 : DSet) (a1 : Int) (a2 : DCell) : Option (Bool × DSet) :=
 (oL N a1).bind fun y6 => bif !y6 then (some (false, a0)) else ((jB N a2).bind fun y8 => bif !y8 then (some (false, (⟨AY a0.at_ a1⟩ : DSet))) else (iM N a1 a0))
theorem rW {N : Nat} {a0 : DSet} {a1 : Int} {a2 : DCell} {r : (Bool × DSet)} (h : jC N a0 a1 a2 = some r) : Okc Tryz.prog 98 [pV B1 0, iV a1, .agg #[iV a2.Kind, iV a2.Shape, iV a2.Flags, iV a2.Age, .slice A3 n3 c3, .slice A4 n4 c4]] ([av A3 n3 c3 a2.Slots, av A4 n4 c4 a2.More, ag B1 113 [.map (some M2)], aN bQ eT M2 a0.at_]) (fun u post => ∃ M0, u = .bool r.1 ∧ post = [ag B1 113 [.map (some M0)], aN bQ eT M0 r.2.at_]) := by
 refine bN Tryz.func98 rfl rfl ?_
 simp only [bc]
 refine run ?_
 refine gD (bo rfl rfl) ?_
 rintro _ _ ⟨B5, rfl, rfl⟩
 refine run ?_
 refine aB ?_
 refine run ?_
 refine gE (ut rfl Tryz.underlying54) ?_
 refine run ?_
 obtain ⟨y6, hy6, h⟩ := aa h
 refine gD (am (xD hy6) GP rfl (ae) vj) ?_
 rintro _ _ ⟨_, ⟨rfl, rfl⟩, rfl⟩
 refine run ?_
 refine ay rfl (fun g7 => ?_) (fun g7 => ?_)
 ·replace h := ah g7 h
  refine run ?_
  obtain rfl := aq h
  exact aQ rfl rfl (ad [3, 4] 5 rfl rfl) ⟨_, rfl, rfl⟩
 replace h := ai g7 h
 refine run ?_
 refine aB ?_
 refine run ?_
 refine gR (aC (us := [iV a2.Kind, iV a2.Shape, iV a2.Flags, iV a2.Age, .slice A3 n3 c3, .slice A4 n4 c4]) 0 rfl rfl bu rfl) ?_
 obtain ⟨y8, hy8, h⟩ := aa h
 refine gD (am (vl hy8) GO rfl (mem_cons (aj (i := 1) rfl rfl) (mem_cons (aj (i := 2) rfl rfl) ae)) sK) ?_
 rintro _ _ ⟨_, ⟨rfl, rfl⟩, rfl⟩
 refine run ?_
 refine ay rfl (fun g9 => ?_) (fun g9 => ?_)
 ·replace h := ah g9 h
  refine run ?_
  refine gO (DN (a := a1) 4 rfl rfl rfl Tryz.underlying107 (cB Tryz.underlying3)) ?_
  rintro _ _ rfl
  refine run ?_
  obtain rfl := aq h
  exact aQ rfl rfl (ad [3, 4] 5 rfl rfl) ⟨_, rfl, rfl⟩
 replace h := ai g9 h
 refine run ?_
 refine aS (fun s L => iM N a1 a0 = some r ∧ s = [(0, pV B1 0), (1, iV a1), (6, .bool false)] ∧ L = [aN bQ eT M2 a0.at_, ag B1 113 [.map (some M2)]]) ?_ ?_
 ·refine run ?_
  refine gE (D8 rfl Tryz.underlying107) ?_
  refine run ?_
  refine lm rfl ?_
  refine run ?_
  exact ⟨_, _, ⟨h, rfl, rfl⟩, sA, ad [4, 3] 5 rfl rfl⟩
 rintro _ _ ⟨h, rfl, rfl⟩
 refine run ?_
 refine gO (fd (a := a1) (b := true) 0 rfl rfl rfl rfl Tryz.underlying107 (cB Tryz.underlying3)) ?_
 rintro _ _ rfl
 refine run ?_
 obtain rfl := aq h
 exact aQ rfl rfl (ad [1, 0] 2 rfl rfl) ⟨_, rfl, rfl⟩
def remset_Set_Renew_l8 (N : Nat) (a1 : DMemory) : Nat → Int → (List (Int × Bool)) → Option DSet
 | 0, _, _ => none
 | m8 + 1, p9, p10 => bif decide (p9 < (a1.Old.length : Int)) then ((aG a1.Old p9).bind fun x12 => bM (in64 (2 * p9)) (bM (in64 ((2 * p9) + 2)) ((jC N (⟨p10⟩ : DSet) ((2 * p9) + 2) x12).bind fun y19 => bM (in64 (p9 + 1)) ((remset_Set_Renew_l8 N a1 m8) (p9 + 1) y19.2.at_)))) else (some (⟨p10⟩ : DSet))
def eK (N : Nat) (a0 : DSet) (a1 : DMemory) : Option DSet :=
 (jk N a0).bind fun y6 => remset_Set_Renew_l8 N a1 N 0 y6.at_
theorem ra {N : Nat} {a0 : DSet} {a1 : DMemory} {r : DSet} (h : eK N a0 a1 = some r) : Okc Tryz.prog 44 [pV B1 0, .agg #[.slice A3 n3 c3, .slice A4 n4 c4]] ([aF A3 n3 c3 a1.Young, aF A4 n4 c4 a1.Old, ag B1 113 [.map (some M2)], aN bQ eT M2 a0.at_]) (fun u post => ∃ M0, u = .tuple #[] ∧ post = [ag B1 113 [.map (some M0)], aN bQ eT M0 r.at_]) := by
 refine bN Tryz.func44 rfl rfl ?_
 simp only [bc]
 refine run ?_
 refine gD (bo rfl rfl) ?_
 rintro _ _ ⟨B5, rfl, rfl⟩
 refine run ?_
 refine aB ?_
 refine run ?_
 refine gE (ut rfl Tryz.underlying54) ?_
 refine run ?_
 refine lm rfl ?_
 refine run ?_
 obtain ⟨y6, hy6, h⟩ := aa h
 refine gD (bH (rb hy6) HH rfl (be [] [3, 4] [0, 1, 2] 5 rfl)) ?_
 rintro _ _ ⟨_, ⟨M7, rfl, rfl⟩, rfl⟩
 refine run ?_
 refine gR (aL 4 rfl ao rfl Tryz.underlying22) ?_
 refine run ?_
 refine bp (fun m s L => ∃ p9 p10 M10, remset_Set_Renew_l8 N a1 m p9 p10 = some r ∧ s = [(0, pV B1 0), (11, .slice A4 n4 c4), (12, iV (a1.Old.length : Int)), (13, iV p9)] ∧ L = [aF A4 n4 c4 a1.Old, aN bQ eT M10 p10, ag B1 113 [.map (some M10)]]) N _ _ ⟨0, y6.at_, M7, h, rfl, rfl⟩ sA (ad [4, 1, 0] 5 rfl rfl) ?_
 rintro (_ | m8) _ _ ⟨p9, p10, M10, h, rfl, rfl⟩
 ·exact aD h
 rw [remset_Set_Renew_l8.eq_2] at h
 refine run ?_
 refine aB ?_
 refine ay rfl (fun g11 => ?_) (fun g11 => ?_)
 ·replace h := ah g11 h
  refine run ?_
  refine aB ?_
  refine run ?_
  obtain ⟨x12, hx12, h⟩ := aa h
  obtain ⟨lx12, ux12, hx12⟩ := au hx12
  refine gR (aM 0 rfl ao rfl rfl Tryz.underlying22 bz lx12 ux12) ?_
  refine va 0 rfl hx12 (db x12) ?_
  rintro _ _ ⟨A13, n13, c13, A14, n14, c14, rfl, rfl⟩
  refine gR (nm (us := [iV x12.Kind, iV x12.Shape, iV x12.Flags, iV x12.Age, .slice A13 n13 c13, .slice A14 n14 c14]) 0 rfl rfl bu rfl) ?_
  refine gD (aJ dR rfl) ?_
  rintro _ _ ⟨B16, rfl, rfl⟩
  refine run ?_
  refine gO (ar (us := [iV x12.Kind, iV x12.Shape, iV x12.Flags, iV x12.Age, .slice A13 n13 c13, .slice A14 n14 c14]) (cs' := [iV x12.Kind, iV x12.Shape, iV x12.Flags, iV x12.Age, .slice A13 n13 c13, .slice A14 n14 c14]) 0 rfl rfl rfl rfl bz rfl rfl rfl) ?_
  rintro _ _ rfl
  refine run ?_
  obtain ⟨q17, h⟩ := ap h
  refine gE (qh rfl rfl q17.1 q17.2) ?_
  obtain ⟨q18, h⟩ := ap h
  refine gE (aR rfl rfl q18.1 q18.2) ?_
  refine gR (aC (us := [iV x12.Kind, iV x12.Shape, iV x12.Flags, iV x12.Age, .slice A13 n13 c13, .slice A14 n14 c14]) 0 rfl rfl bu rfl) ?_
  obtain ⟨y19, hy19, h⟩ := aa h
  refine gD (bH (rW hy19) HG rfl (be [2, 3] [6, 5] [0, 1, 2, 3, 4] 7 rfl)) ?_
  rintro _ _ ⟨_, ⟨M20, rfl, rfl⟩, rfl⟩
  refine bC ([ag B1 113 [.map (some M20)], aN bQ eT M20 y19.2.at_, ag B16 32 [iV x12.Kind, iV x12.Shape, iV x12.Flags, iV x12.Age, .slice A13 n13 c13, .slice A14 n14 c14], pq (cA (.slice A4 n4 c4) p9.toNat 6 0) [iV x12.Kind, iV x12.Shape, iV x12.Flags, iV x12.Age, .slice A13 n13 c13, .slice A14 n14 c14], av A13 n13 c13 x12.Slots, av A14 n14 c14 x12.More, aF A4 n4 c4 a1.Old]) rfl ?_
  refine run ?_
  obtain ⟨q21, h⟩ := ap h
  refine gE (aR rfl rfl q21.1 q21.2) ?_
  refine run ?_
  exact ⟨m8, _, _, Nat.lt_succ_self _, ⟨p9 + 1, y19.2.at_, M20, h, rfl, rfl⟩, sA, ad [6, 1, 0] 7 rfl rfl⟩
 replace h := ai g11 h
 refine run ?_
 obtain rfl := aq h
 exact jo rfl (ad [2, 1] 3 rfl rfl) ⟨_, rfl, rfl⟩
def gQ (N : Nat) (a0 : DSet) : Option (List Int) :=
 (qa N a0.at_).bind fun y3 => (lq N a0.at_).bind fun y5 => some y5
theorem rX {N : Nat} {a0 : DSet} {r : (List Int)} (h : gQ N a0 = some r) : Okc Tryz.prog 46 [pV B1 0] ([bU B1 113 [.map (some M2)], pG bQ eT M2 a0.at_]) (fun u post => ∃ A0 n0 c0, u = .slice A0 n0 c0 ∧ post = [br A0 n0 c0 r]) := by
 refine bN Tryz.func46 rfl rfl ?_
 simp only [bc]
 refine run ?_
 refine aB ?_
 refine run ?_
 refine gE (ut rfl Tryz.underlying54) ?_
 refine run ?_
 refine lm rfl ?_
 refine run ?_
 refine gR (ci 0 rfl rfl BW rfl) ?_
 obtain ⟨y3, hy3, h⟩ := aa h
 refine gD (am (zw hy3) G8 rfl (ae) wR) ?_
 rintro _ _ ⟨_, ⟨B4, rfl, rfl⟩, rfl⟩
 obtain ⟨y5, hy5, h⟩ := aa h
 refine gD (am (tW hy5) HO rfl (mem_cons (fm (i := 0) rfl) (mem_cons (aj (i := 2) rfl rfl) ae)) rS) ?_
 rintro _ _ ⟨_, ⟨A6, n6, c6, rfl, rfl⟩, rfl⟩
 refine run ?_
 obtain rfl := aq h
 exact aQ rfl rfl (ad [0] 4 rfl rfl) ⟨_, _, _, rfl, rfl⟩
theorem pI {r : (List Int)} : ∀ v post, ((fun (u : Value) (post : List Chunk) => ∃ A0 n0 c0, u = .slice A0 n0 c0 ∧ post = [br A0 n0 c0 r])) v post → ∀ c ∈ post, cZ c := by
 rintro _ _ ⟨_, _, _, rfl, rfl⟩; exact mem_cons bS (ae)
def iu (N : Nat) (a0 : DMemory) (a1 : (List DValue)) : Option Bool :=
 (qF N a0 a1).bind fun y5 => (bif !y5 then (some true) else ((kG N a0 a1).bind fun y7 => some (!y7))).bind fun b6 => bif b6 then ((md N).bind fun y9 => some y9) else ((oM N).bind fun y10 => (eK N y10 a0).bind fun y13 => (gQ N y13).bind fun y15 => (jc N a0 a1 y15).bind fun y18 => bif !decide (y18.2.2.2 = 0) then (some false) else ((bL N y18.1 y18.2.1).bind fun y46 => (bL N a0 a1).bind fun y52 => (bif decide (y46.2.2.2 = 0) then (some (decide (y52.2.2.2 = 0))) else (some false)).bind fun b58 => (bif b58 then ((fx N y46.1 y46.2.1 y52.1 y52.2.1).bind fun y60 => some y60) else (some false)).bind fun b59 => (bif b59 then ((md N).bind fun y62 => some y62) else (some false)).bind fun b61 => some b61))
theorem sE {N : Nat} {a0 : DMemory} {a1 : (List DValue)} {r : Bool} (h : iu N a0 a1 = some r) : Okc Tryz.prog 9 [.agg #[.slice A1 n1 c1, .slice A2 n2 c2], .slice A3 n3 c3] ([aF A1 n1 c1 a0.Young, aF A2 n2 c2 a0.Old, av A3 n3 c3 a1]) (fun u post => u = .bool r ∧ post = []) := by
 refine bN Tryz.func9 rfl rfl ?_
 simp only [bc]
 refine run ?_
 refine gD (bo rfl rfl) ?_
 rintro _ _ ⟨B4, rfl, rfl⟩
 refine run ?_
 refine aB ?_
 refine run ?_
 refine gR (aC (us := [.slice A1 n1 c1, .slice A2 n2 c2]) 0 rfl rfl cN rfl) ?_
 refine run ?_
 obtain ⟨y5, hy5, h⟩ := aa h
 refine gD (am (BN hy5) HX rfl (mem_cons (aj (i := 1) rfl rfl) (mem_cons (aj (i := 2) rfl rfl) (mem_cons (aj (i := 3) rfl rfl) ae))) zp) ?_
 rintro _ _ ⟨_, ⟨rfl, rfl⟩, rfl⟩
 refine run ?_
 obtain ⟨b6, hb6, h⟩ := aa h
 refine aX 5 27 b6 ?_ ?_
 ·clear h
  refine aY 22 rfl (fun g6 => ?_) (fun g6 => ?_)
  ·have h := ah g6 hb6
   refine run ?_
   obtain rfl := aq h
   exact ak sA (ad [0, 1, 2, 3] 4 rfl rfl)
  have h := ai g6 hb6
  refine cY (aC (us := [.slice A1 n1 c1, .slice A2 n2 c2]) 0 rfl rfl cN rfl) rfl (gm g6 rfl) rfl ?_
  refine run ?_
  obtain ⟨y7, hy7, h⟩ := aa h
  refine dj (am (wl hy7) HW rfl (mem_cons (aj (i := 1) rfl rfl) (mem_cons (aj (i := 2) rfl rfl) (mem_cons (aj (i := 3) rfl rfl) ae))) t7) rfl (gm g6 rfl) rfl ?_
  rintro _ _ ⟨_, ⟨rfl, rfl⟩, rfl⟩
  refine run ?_
  obtain rfl := aq h
  exact ak sA (ad [0, 1, 2, 3] 4 rfl rfl)
 refine run ?_
 refine ay rfl (fun g8 => ?_) (fun g8 => ?_)
 ·replace h := ah g8 h
  refine run ?_
  obtain ⟨y9, hy9, h⟩ := aa h
  refine gD (am (uz hy9) FG rfl (ae) rl) ?_
  rintro _ _ ⟨_, ⟨rfl, rfl⟩, rfl⟩
  refine run ?_
  obtain rfl := aq h
  exact aQ rfl rfl (ad [] 4 rfl rfl) ⟨rfl, rfl⟩
 replace h := ai g8 h
 refine run ?_
 obtain ⟨y10, hy10, h⟩ := aa h
 refine gD (bH (xE hy10) HS rfl (be [] [] [0, 1, 2, 3] 4 rfl)) ?_
 rintro _ _ ⟨_, ⟨B11, M12, rfl, rfl⟩, rfl⟩
 refine run ?_
 refine gR (aC (us := [.slice A1 n1 c1, .slice A2 n2 c2]) 2 rfl rfl cN rfl) ?_
 obtain ⟨y13, hy13, h⟩ := aa h
 refine gD (bH (ra hy13) HR rfl (be [3, 4] [0, 1] [2, 3, 4, 5] 6 rfl)) ?_
 rintro _ _ ⟨_, ⟨M14, rfl, rfl⟩, rfl⟩
 refine run ?_
 refine aB ?_
 obtain ⟨y15, hy15, h⟩ := aa h
 obtain ⟨y18, hy18, h⟩ := aa h
 refine dK (t := [(1, .slice A3 n3 c3), (2, pV B4 0), (4, .bool false), (5, pV B11 0)]) ?_ fU (ab _)
 refine d9 (by kernel_rfl) 11 [7, 8, 9] [6, 7, 8, 9, 10] [34, 35, 36, 37, 38, 33, 39, 40, 41, 42, 6] [[], [], [], [2], [0, 1, 3], [4], [5], [5], [5], [5], []] [aV (.agg #[.slice A1 n1 c1, .slice A2 n2 c2]),
aV (.slice A3 n3 c3),
aV (pV B11 0),
aX3 (fun (A17 : Option Addr) (n17 c17 : Nat) => .slice A17 n17 c17) (fun A17 n17 c17 => [cm A17 n17 c17 y15]),
aX12 (fun (A23 : Option Addr) (n23 c23 : Nat) (A24 : Option Addr) (n24 c24 : Nat) (A25 : Option Addr) (n25 c25 : Nat) (A26 : Option Addr) (n26 c26 : Nat) => .tuple #[.agg #[.slice A23 n23 c23, .slice A24 n24 c24], .slice A25 n25 c25, .slice A26 n26 c26, iV y18.2.2.2]) (fun A23 n23 c23 A24 n24 c24 A25 n25 c25 A26 n26 c26 => [aF A23 n23 c23 y18.1.Young, aF A24 n24 c24 y18.1.Old, av A25 n25 c25 y18.2.1, av A26 n26 c26 y18.2.2.1]),
aX12 (fun (A27 : Option Addr) (n27 c27 : Nat) (A28 : Option Addr) (n28 c28 : Nat) (A29 : Option Addr) (n29 c29 : Nat) (A30 : Option Addr) (n30 c30 : Nat) => .tuple #[.agg #[.slice A27 n27 c27, .slice A28 n28 c28], .slice A29 n29 c29, .slice A30 n30 c30, iV y18.2.2.2]) (fun A27 n27 c27 A28 n28 c28 A29 n29 c29 A30 n30 c30 => [aF A27 n27 c27 y18.1.Young, aF A28 n28 c28 y18.1.Old, av A29 n29 c29 y18.2.1, av A30 n30 c30 y18.2.2.1]),
aX6 (fun (A35 : Option Addr) (n35 c35 : Nat) (A36 : Option Addr) (n36 c36 : Nat) => .agg #[.slice A35 n35 c35, .slice A36 n36 c36]) (fun A35 n35 c35 A36 n36 c36 => [aF A35 n35 c35 y18.1.Young, aF A36 n36 c36 y18.1.Old]),
aX3 (fun (A39 : Option Addr) (n39 c39 : Nat) => .slice A39 n39 c39) (fun A39 n39 c39 => [av A39 n39 c39 y18.2.1]),
aX3 (fun (A41 : Option Addr) (n41 c41 : Nat) => .slice A41 n41 c41) (fun A41 n41 c41 => [av A41 n41 c41 y18.2.2.1]),
aV (iV y18.2.2.2),
aX1 (fun (B44 : Nat) => pV B44 0) (fun B44 => [ag B44 24 [.slice none 0 0, .slice none 0 0]])] [] (ab _) (iz rfl (iz rfl (iz rfl fM))) (by kernel_rfl) rfl rfl ?_ ?_ ?_
 ·refine iy rfl ?_ ?_
  ·intro A27 n27 c27 A28 n28 c28 A29 n29 c29 A30 n30 c30
   exact oE (bG rfl rfl) rfl (gX A29 n29 c29 ((cW 2 rfl rfl).trans (ab _)))
  refine iy rfl ?_ ?_
  ·intro A27 n27 c27 A28 n28 c28 A29 n29 c29 A30 n30 c30
   exact oE (bG rfl rfl) rfl (gX A30 n30 c30 ((cW 3 rfl rfl).trans (ab _)))
  refine iy rfl ?_ ?_
  ·intro A27 n27 c27 A28 n28 c28 A29 n29 c29 A30 n30 c30
   exact oE (bG rfl rfl) rfl (aA rfl (ab _))
  exact fL
 ·refine ac rfl ?_ ?_
  ·refine eg (aJ nI rfl) rfl ?_
   rintro _ _ ⟨B43, rfl, rfl⟩
   exact AZ B43 (ab _)
  refine ac rfl ?_ ?_
  ·intro A27 n27 c27 A28 n28 c28 A29 n29 c29 A30 n30 c30
   exact aW (bG rfl rfl) rfl (aA rfl (ab _))
  refine ac rfl ?_ ?_
  ·intro A27 n27 c27 A28 n28 c28 A29 n29 c29 A30 n30 c30
   exact aW (bG rfl rfl) rfl (gX A30 n30 c30 ((cW 3 rfl rfl).trans (ab _)))
  refine ac rfl ?_ ?_
  ·intro A27 n27 c27 A28 n28 c28 A29 n29 c29 A30 n30 c30
   exact aW (bG rfl rfl) rfl (gX A29 n29 c29 ((cW 2 rfl rfl).trans (ab _)))
  refine ac rfl ?_ ?_
  ·intro A27 n27 c27 A28 n28 c28 A29 n29 c29 A30 n30 c30
   exact aW (bG rfl rfl) rfl (xl A27 n27 c27 A28 n28 c28 ((cW 0 rfl rfl).trans ((cW 2 rfl rfl).trans (ad [1, 0, 2, 3, 4, 5, 6, 7, 8, 9, 10, 11] 12 rfl rfl))))
  refine ac rfl ?_ ?_
  ·intro A23 n23 c23 A24 n24 c24 A25 n25 c25 A26 n26 c26
   exact aW (az rfl) rfl (yP A23 n23 c23 A24 n24 c24 A25 n25 c25 A26 n26 c26 ((cW 0 rfl rfl).trans ((cW 2 rfl rfl).trans ((cW 4 rfl rfl).trans ((cW 6 rfl rfl).trans (ad [3, 2, 1, 0, 4, 5, 6, 7, 8, 9, 10, 11, 12, 13] 14 rfl rfl))))))
  refine ac rfl ?_ ?_
  ·intro A17 n17 c17
   refine eg (bH (uh hy18) HQ rfl (be [4, 5, 6, 0] [] [0, 1, 2, 3, 4, 5, 6] 7 rfl)) rfl ?_
   rintro _ _ ⟨_, ⟨A19, n19, c19, A20, n20, c20, A21, n21, c21, A22, n22, c22, rfl, rfl⟩, rfl⟩
   exact yP A19 n19 c19 A20 n20 c20 A21 n21 c21 A22 n22 c22 ((bV 0 rfl).trans ((bV 1 rfl).trans ((bV 2 rfl).trans ((bV 3 rfl).trans (ab _)))))
  refine ac rfl ?_ ?_
  ·refine eg (am (rX hy15) HP rfl (mem_cons (fm (i := 0) rfl) (mem_cons (fN (i := 1) rfl) ae)) pI) rfl ?_
   rintro _ _ ⟨_, ⟨A16, n16, c16, rfl, rfl⟩, rfl⟩
   exact gX A16 n16 c16 ((bV 0 rfl).trans (ab _))
  refine ac rfl ?_ ?_
  ·exact aW (az rfl) rfl (aA rfl (ab _))
  refine ac rfl ?_ ?_
  ·exact aW (az rfl) rfl (aA rfl (ab _))
  refine ac rfl ?_ ?_
  ·exact cc (aC (us := [.slice A1 n1 c1, .slice A2 n2 c2]) 2 rfl rfl cN rfl) rfl (aA rfl (ab _))
  exact cO
 intro A35 n35 c35 A36 n36 c36 A39 n39 c39 A41 n41 c41 B44
 refine ip (t := [(39, .agg #[.slice A35 n35 c35, .slice A36 n36 c36]), (40, .slice A39 n39 c39), (41, .slice A41 n41 c41), (42, iV y18.2.2.2), (6, pV B44 0), (1, .slice A3 n3 c3), (2, pV B4 0), (4, .bool false), (5, pV B11 0)]) (L' := [aF A35 n35 c35 y18.1.Young, aF A36 n36 c36 y18.1.Old, av A39 n39 c39 y18.2.1, av A41 n41 c41 y18.2.2.1, ag B44 24 [.slice none 0 0, .slice none 0 0], ag B11 113 [.map (some M14)], aN bQ eT M14 y13.at_, ag B4 24 [.slice A1 n1 c1, .slice A2 n2 c2], aF A1 n1 c1 a0.Young, aF A2 n2 c2 a0.Old, av A3 n3 c3 a1]) ?_ fU (ab _)
 refine jY 11 rfl (by kernel_rfl) (ar (us := [.slice A35 n35 c35, .slice A36 n36 c36]) (cs' := [.slice A35 n35 c35, .slice A36 n36 c36]) 4 rfl rfl rfl rfl lw rfl rfl rfl) rfl rfl ?_
 rintro _ _ rfl
 refine mX ([aF A35 n35 c35 y18.1.Young, aF A36 n36 c36 y18.1.Old, av A39 n39 c39 y18.2.1, av A41 n41 c41 y18.2.2.1, ag B44 24 [.slice A35 n35 c35, .slice A36 n36 c36], ag B11 113 [.map (some M14)], aN bQ eT M14 y13.at_, ag B4 24 [.slice A1 n1 c1, .slice A2 n2 c2], aF A1 n1 c1 a0.Young, aF A2 n2 c2 a0.Old, av A3 n3 c3 a1]) rfl ?_
 refine mY 12 rfl (by kernel_rfl) (bw rfl) rfl rfl rfl ?_
 refine mY 13 rfl (by kernel_rfl) (bw rfl) rfl rfl rfl ?_
 refine mY 14 rfl (by kernel_rfl) (bw rfl) rfl rfl rfl ?_
 refine fT (by kernel_rfl) ?_
 refine lN ?_
 refine aB ?_
 refine run ?_
 refine ay rfl (fun g45 => ?_) (fun g45 => ?_)
 ·replace h := ah g45 h
  refine run ?_
  obtain rfl := aq h
  exact aQ rfl rfl (ad [] 11 rfl rfl) ⟨rfl, rfl⟩
 replace h := ai g45 h
 refine run ?_
 refine gR (aC (us := [.slice A35 n35 c35, .slice A36 n36 c36]) 4 rfl rfl cN rfl) ?_
 refine run ?_
 obtain ⟨y46, hy46, h⟩ := aa h
 refine gD (bH (iC hy46) zR rfl (be [0, 1, 2] [] [0, 1, 2, 3, 4, 5, 6, 7, 8, 9, 10] 11 rfl)) ?_
 rintro _ _ ⟨_, ⟨A47, n47, c47, A48, n48, c48, A49, n49, c49, A50, n50, c50, rfl, rfl⟩, rfl⟩
 refine run ?_
 refine gD (aJ nI rfl) ?_
 rintro _ _ ⟨B51, rfl, rfl⟩
 refine gO (ar (us := [.slice A47 n47 c47, .slice A48 n48 c48]) (cs' := [.slice A47 n47 c47, .slice A48 n48 c48]) 0 rfl rfl rfl rfl lw rfl rfl rfl) ?_
 rintro _ _ rfl
 refine run ?_
 refine gR (aC (us := [.slice A1 n1 c1, .slice A2 n2 c2]) 12 rfl rfl cN rfl) ?_
 refine run ?_
 obtain ⟨y52, hy52, h⟩ := aa h
 refine gD (bH (iC hy52) zR rfl (be [13, 14, 15] [] [0, 1, 2, 3, 4, 5, 6, 7, 8, 9, 10, 11, 12, 13, 14, 15] 16 rfl)) ?_
 rintro _ _ ⟨_, ⟨A53, n53, c53, A54, n54, c54, A55, n55, c55, A56, n56, c56, rfl, rfl⟩, rfl⟩
 refine bC ([cz A53 n53 c53 y52.1.Young, cz A54 n54 c54 y52.1.Old, bD A55 n55 c55 y52.2.1, bD A56 n56 c56 y52.2.2.1, ag B51 24 [.slice A47 n47 c47, .slice A48 n48 c48], cz A47 n47 c47 y46.1.Young, cz A48 n48 c48 y46.1.Old, bD A49 n49 c49 y46.2.1, bD A50 n50 c50 y46.2.2.1, aF A35 n35 c35 y18.1.Young, aF A36 n36 c36 y18.1.Old, av A39 n39 c39 y18.2.1, av A41 n41 c41 y18.2.2.1, ag B44 24 [.slice A35 n35 c35, .slice A36 n36 c36], ag B11 113 [.map (some M14)], aN bQ eT M14 y13.at_, ag B4 24 [.slice A1 n1 c1, .slice A2 n2 c2], aF A1 n1 c1 a0.Young, aF A2 n2 c2 a0.Old, av A3 n3 c3 a1]) rfl ?_
 refine run ?_
 refine gD (aJ nI rfl) ?_
 rintro _ _ ⟨B57, rfl, rfl⟩
 refine gO (ar (us := [.slice A53 n53 c53, .slice A54 n54 c54]) (cs' := [.slice A53 n53 c53, .slice A54 n54 c54]) 0 rfl rfl rfl rfl lw rfl rfl rfl) ?_
 rintro _ _ rfl
 refine run ?_
 obtain ⟨b58, hb58, h⟩ := aa h
 refine aX 3 66 b58 ?_ ?_
 ·clear h
  refine aY 63 rfl (fun g58 => ?_) (fun g58 => ?_)
  ·have h := ah g58 hb58
   refine run ?_
   obtain rfl := aq h
   exact ak sA (ad [0, 1, 2, 3, 4, 5, 6, 7, 8, 9, 10, 11, 12, 13, 14, 15, 16, 17, 18, 19, 20] 21 rfl rfl)
  have h := ai g58 hb58
  refine run ?_
  obtain rfl := aq h
  exact ak sA (ad [0, 1, 2, 3, 4, 5, 6, 7, 8, 9, 10, 11, 12, 13, 14, 15, 16, 17, 18, 19, 20] 21 rfl rfl)
 refine run ?_
 obtain ⟨b59, hb59, h⟩ := aa h
 refine aX 6 73 b59 ?_ ?_
 ·clear h
  refine aY 67 rfl (fun g59 => ?_) (fun g59 => ?_)
  ·have h := ah g59 hb59
   refine cY (aC (us := [.slice A47 n47 c47, .slice A48 n48 c48]) 5 rfl rfl cN rfl) rfl (bd g59 rfl) rfl ?_
   refine run ?_
   refine cY (aC (us := [.slice A53 n53 c53, .slice A54 n54 c54]) 0 rfl rfl cN rfl) rfl (bd g59 rfl) rfl ?_
   refine run ?_
   obtain ⟨y60, hy60, h⟩ := aa h
   refine dj (am (wn hy60) HV rfl (mem_cons (aK (i := 6) rfl) (mem_cons (aK (i := 7) rfl) (mem_cons (aK (i := 8) rfl) (mem_cons (aK (i := 1) rfl) (mem_cons (aK (i := 2) rfl) (mem_cons (aK (i := 3) rfl) ae)))))) t8) rfl (bd g59 rfl) rfl ?_
   rintro _ _ ⟨_, ⟨rfl, rfl⟩, rfl⟩
   refine run ?_
   obtain rfl := aq h
   exact ak sA (ad [0, 1, 2, 3, 4, 5, 6, 7, 8, 9, 10, 11, 12, 13, 14, 15, 16, 17, 18, 19, 20] 21 rfl rfl)
  have h := ai g59 hb59
  refine run ?_
  obtain rfl := aq h
  exact ak sA (ad [0, 1, 2, 3, 4, 5, 6, 7, 8, 9, 10, 11, 12, 13, 14, 15, 16, 17, 18, 19, 20] 21 rfl rfl)
 refine run ?_
 obtain ⟨b61, hb61, h⟩ := aa h
 refine aX 2 76 b61 ?_ ?_
 ·clear h
  refine aY 74 rfl (fun g61 => ?_) (fun g61 => ?_)
  ·have h := ah g61 hb61
   obtain ⟨y62, hy62, h⟩ := aa h
   refine dj (am (uz hy62) FG rfl (ae) rl) rfl (bd g61 rfl) rfl ?_
   rintro _ _ ⟨_, ⟨rfl, rfl⟩, rfl⟩
   refine run ?_
   obtain rfl := aq h
   exact ak sA (ad [0, 1, 2, 3, 4, 5, 6, 7, 8, 9, 10, 11, 12, 13, 14, 15, 16, 17, 18, 19, 20] 21 rfl rfl)
  have h := ai g61 hb61
  refine run ?_
  obtain rfl := aq h
  exact ak sA (ad [0, 1, 2, 3, 4, 5, 6, 7, 8, 9, 10, 11, 12, 13, 14, 15, 16, 17, 18, 19, 20] 21 rfl rfl)
 refine run ?_
 obtain rfl := aq h
 exact aQ rfl rfl (ad [] 21 rfl rfl) ⟨rfl, rfl⟩
end Go.Proofs.YtmbaennilhdieaaGreat
namespace Go.Proofs.YtmbaennilhdieaaGreat
variable {A1 A2 A3 A4 A5 : Option Addr} {B1 M2 M6 c1 c2 c3 c4 c5 n1 n2 n3 n4 n5 : Nat}
open Go.RowKit
def Sat {ρ : Type} (m : Option ρ) (R : ρ → Prop) : Prop := ∃ r, m = some r ∧ R r
theorem aE {ρ : Type} {x : ρ} {R : ρ → Prop} (h : R x) : Sat (some x) R := ⟨x, rfl, h⟩
theorem Sat.eq {ρ : Type} {m : Option ρ} {x : ρ} (h : Sat m (· = x)) : m = some x := by obtain ⟨r, h1, rfl⟩ := h; exact h1
theorem Sat.mono {ρ : Type} {m : Option ρ} {R Q : ρ → Prop} (h : Sat m R) (k : ∀ x, R x → Q x) : Sat m Q := by obtain ⟨r, h1, h2⟩ := h; exact ⟨r, h1, k _ h2⟩
theorem Sat.bind {ρ σ : Type} {m : Option σ} {f : σ → Option ρ} {P : σ → Prop} {R : ρ → Prop} (h : Sat m P) (k : ∀ x, P x → Sat (f x) R) : Sat (m.bind f) R := by obtain ⟨x, rfl, h2⟩ := h; exact k x h2
theorem mj {ρ : Type} {b : Bool} {x y : Option ρ} {R : ρ → Prop} (h1 : b = true → Sat x R) (h2 : b = false → Sat y R) : Sat (bif b then x else y) R := by cases b with | true => exact h1 rfl | false => exact h2 rfl
theorem df {ρ : Type} {p : Prop} [Decidable p] {x y : Option ρ} {R : ρ → Prop} (h1 : p → Sat x R) (h2 : ¬ p → Sat y R) : Sat (bif decide p then x else y) R := by
 by_cases h : p
 ·rw [decide_eq_true h]; exact h1 h
 rw [decide_eq_false h]; exact h2 h
theorem Gb {ρ : Type} {b : Bool} {x y : Option ρ} {R : ρ → Prop} (h1 : b = false → Sat x R) (h2 : b = true → Sat y R) : Sat (bif !b then x else y) R := by cases b with | true => exact h2 rfl | false => exact h1 rfl
theorem bs {ρ σ : Type} {x : σ} {f : σ → Option ρ} : (some x).bind f = f x := Eq.trans rfl rfl
theorem ct {ρ : Type} {x y : ρ} : (bif true then x else y) = x := Eq.trans rfl rfl
theorem cf {ρ : Type} {x y : ρ} : (bif false then x else y) = y := Eq.trans rfl rfl
theorem nt : (!true) = false := Eq.trans rfl rfl
theorem nf : (!false) = true := Eq.trans rfl rfl
theorem cv {a b : Int} (h : a < b) : decide (a < b) = true := decide_eq_true h
theorem cp {a b : Int} (h : b ≤ a) : decide (a < b) = false := decide_eq_false (by omega)
theorem E7 {a b : Int} (h : a ≤ b) : decide (a ≤ b) = true := decide_eq_true h
theorem E8 {a b : Int} (h : b < a) : decide (a ≤ b) = false := decide_eq_false (by omega)
theorem lQ {a b : Int} (h : a = b) : decide (a = b) = true := decide_eq_true h
theorem eO {a b : Int} (h : a ≠ b) : decide (a = b) = false := decide_eq_false h
theorem jt {ρ : Type} {b : Prop} [Decidable b] {m : Option ρ} (h : b) : bM b m = m := if_pos h
theorem r64 {ρ : Type} {a : Int} {m : Option ρ} (h1 : -9000000000000000000 ≤ a) (h2 : a ≤ 9000000000000000000) : bM (in64 a) m = m := if_pos ⟨by omega, by omega⟩
theorem rF {ρ : Type} {n : Nat} {m : Option ρ} (h : n ≤ 1000000) : bM (cD n) m = m := if_pos (by unfold cD; omega)
theorem Gq {α : Type} {xs : List α} {i : Int} (h0 : 0 ≤ i) (h1 : i.toNat < xs.length) : aG xs i = some xs[i.toNat] := by
 unfold aG
 rw [if_neg (by omega), List.getElem?_eq_getElem h1]
theorem aU {α : Type} {xs : List α} {i : Nat} (h1 : i < xs.length) : aG xs (i : Int) = some xs[i] := by
 unfold aG
 rw [if_neg (by omega), Int.toNat_natCast, List.getElem?_eq_getElem h1]
theorem ck {σ ρ : Type} (L : Nat → Nat → σ → Option ρ) (n : Nat) (Inv : Nat → σ → Prop) (R : ρ → Prop)
  (round : ∀ m i s, i < n → Inv i s → (∀ s', Inv (i + 1) s' → Sat (L m (i + 1) s') R) → Sat (L (m + 1) i s) R)
  (fin : ∀ m s, Inv n s → Sat (L (m + 1) n s) R) : ∀ m i s, n < m + i → i ≤ n → Inv i s → Sat (L m i s) R
 | 0, i, s, h, h2, _ => by omega
 | m + 1, i, s, h, h2, hi => by
  by_cases e : i = n
  ·subst e; exact fin m s hi
  exact round m i s (by omega) hi fun s' h' => ck L n Inv R round fin m (i + 1) s' (by omega) (by omega) h'
theorem i4 {σ ρ : Type} (L : Nat → σ → Option ρ) (v : σ → Nat) (Inv : σ → Prop) (R : ρ → Prop)
  (round : ∀ m s, Inv s → (∀ s', v s' < v s → Inv s' → Sat (L m s') R) → Sat (L (m + 1) s) R) : ∀ m s, v s < m → Inv s → Sat (L m s) R
 | 0, _, h, _ => by omega
 | m + 1, s, h, hi => round m s hi fun s' h1 h2 => i4 L v Inv R round m s' (by omega) h2
theorem aP {α : Type} {l : List α} {i : Nat} (h : i < l.length) : l.take (i + 1) = l.take i ++ [l[i]] := by
 rw [List.take_add_one, List.getElem?_eq_getElem h]; rfl
theorem Do : ∀ {a b : List Int}, a.Pairwise (· < ·) → b.Pairwise (· < ·) → (∀ x, x ∈ a ↔ x ∈ b) → a = b
 | [], [], _, _, _ => rfl
 | [], y :: b, _, _, h => by have := (h y).2 (by simp); cases this
 | x :: a, [], _, _, h => by have := (h x).1 (by simp); cases this
 | x :: a, y :: b, ha, hb, h => by
  obtain ⟨ha1, ha2⟩ := List.pairwise_cons.1 ha
  obtain ⟨hb1, hb2⟩ := List.pairwise_cons.1 hb
  have e : x = y := by
   rcases List.mem_cons.1 ((h x).1 (by simp)) with e | h1
   ·exact e
   rcases List.mem_cons.1 ((h y).2 (by simp)) with e | h2
   ·exact e.symm
   have := hb1 x h1; have := ha1 y h2; omega
  subst e
  rw [Do ha2 hb2 fun z => ?_]
  constructor
  ·intro hz
   rcases List.mem_cons.1 ((h z).1 (by simp [hz])) with e | h1
   ·subst e; exact absurd (ha1 z hz) (by omega)
   exact h1
  intro hz
  rcases List.mem_cons.1 ((h z).2 (by simp [hz])) with e | h1
  ·subst e; exact absurd (hb1 z hz) (by omega)
  exact h1
theorem Fb {α β : Type} [DecidableEq α] (a : α) (L : List (α × β)) : (∃ i b, fp a L 0 = some (i, b) ∧ L[i]? = some (a, b)) ∨ (fp a L 0 = none ∧ a ∉ L.map (·.1)) := by
 cases h : fp a L 0 with
 | none => exact .inr ⟨rfl, fun h1 => by
   obtain ⟨p, h2, h3⟩ := List.mem_map.1 h1
   exact (Gs a L).1 h p h2 h3⟩
 | some q => obtain ⟨i, b⟩ := q; exact .inl ⟨i, b, rfl, (yA a L 0 i b h).2⟩
theorem Ai {α β : Type} [DecidableEq α] (L : List (α × β)) (a : α) (b : β) : (na L a b).map (·.1) = if a ∈ L.map (·.1) then L.map (·.1) else L.map (·.1) ++ [a] := by
 unfold na
 rcases Fb a L with ⟨i, c, h1, h2⟩ | ⟨h1, h2⟩
 ·have hm : a ∈ L.map (·.1) := List.mem_map.2 ⟨_, List.mem_of_getElem? h2, rfl⟩
  rw [h1, if_pos hm]
  show (L.set i (a, b)).map (·.1) = _
  rw [List.map_set]
  apply List.ext_getElem?
  intro j
  by_cases e : i = j
  ·subst e
   have hlt := (List.getElem?_eq_some_iff.1 h2).1
   rw [List.getElem?_set_self (by simpa using hlt), List.getElem?_map, h2]; rfl
  rw [List.getElem?_set_ne e]
 rw [h1, if_neg h2]
 show (L ++ [(a, b)]).map (·.1) = _
 rw [List.map_append]; rfl
theorem F7 {α β : Type} [DecidableEq α] (L : List (α × β)) (a : α) (b : β) (x : α) : x ∈ (na L a b).map (·.1) ↔ x = a ∨ x ∈ L.map (·.1) := by
 rw [Ai]
 split
 ·constructor
  ·exact .inr
  rintro (rfl | h) <;> assumption
 rw [List.mem_append, List.mem_singleton]; exact Or.comm
end Go.Proofs.YtmbaennilhdieaaGreat
namespace Go.Proofs.YtmbaennilhdieaaGreat
variable {A1 A2 A3 A4 A5 : Option Addr} {B1 M2 M6 c1 c2 c3 c4 c5 n1 n2 n3 n4 n5 : Nat}
open Go.RowKit
end Go.Proofs.YtmbaennilhdieaaGreat