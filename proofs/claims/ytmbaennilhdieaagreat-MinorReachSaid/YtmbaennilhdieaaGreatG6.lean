/- Merged texts: part 6. No conditions of their own. -/
import Derived.Test.YtmbaennilhdieaaGreatG5
import Derived.Test.YtmbaennilhdieaaGreatG1
/- Pure functions and contracts of Go functions (printed by all3.py). -/
namespace Go.Proofs.YtmbaennilhdieaaGreat
open Go.RowKit Asn
set_option maxRecDepth 20000
def minor_Collect_j67 (N : Nat) (a1 : (List DValue)) (y20 : ((List Int))) (y13 : (DMeeter)) (p68 : (List DValue)) (p69 : (List DCell)) (p70 : (List DCell)) : Option (DMemory × (List DValue) × (List DValue) × Int) :=
 (minor_moved_O N a1 y13.met_ y20).bind fun y104 => (minor_moved_O N p68 y13.met_ y20).bind fun y106 => some ((⟨p69, p70⟩ : DMemory), y104, y106, 0)
def minor_Collect_j78 (N : Nat) (kb71 : (List DValue) → Int → (List DCell) → (List DCell) → Option (DMemory × (List DValue) × (List DValue) × Int)) (y13 : (DMeeter)) (p73 : Int) (a1 : (List DValue)) (y20 : ((List Int))) (p26 : (List Int)) (p79 : (List DValue)) (p80 : (List DCell)) (p81 : (List DCell)) : Option (DMemory × (List DValue) × (List DValue) × Int) :=
 req (in64 (p73 + 1)) (kb71 p79 (p73 + 1) p80 p81)
def minor_Collect_l71 (N : Nat) (y13 : (DMeeter)) (a1 : (List DValue)) (y20 : ((List Int))) (p26 : (List Int)) : Nat → (List DValue) → Int → (List DCell) → (List DCell) → Option (DMemory × (List DValue) × (List DValue) × Int)
 | 0, _, _, _, _ => none
 | m71 + 1, p72, p73, p74, p75 => bif decide (p73 < (y13.met_.length : Int)) then ((getE y13.met_ p73).bind fun x82 => (minor_meeter_cell_O N y13 x82).bind fun y83 => (minor_clean_O N y83 p26 p72).bind fun y87 => (cell_Moved_O N y87.1 y13.met_ y20).bind fun y91 => (getE y20 p73).bind fun x94 => (minor_young_O N x94).bind fun y95 => bif y95 then (req (fitsL (p74.length + ([(⟨y91.Kind, y91.Shape, y91.Flags, 1, y91.Slots, y91.More⟩ : DCell)] : List DCell).length)) (minor_Collect_j78 N (minor_Collect_l71 N y13 a1 y20 p26 m71) y13 p73 a1 y20 p26 y87.2 (p74 ++ ([(⟨y91.Kind, y91.Shape, y91.Flags, 1, y91.Slots, y91.More⟩ : DCell)] : List DCell)) p75)) else (req (fitsL (p75.length + ([(⟨y91.Kind, y91.Shape, y91.Flags, 1, y91.Slots, y91.More⟩ : DCell)] : List DCell).length)) (minor_Collect_j78 N (minor_Collect_l71 N y13 a1 y20 p26 m71) y13 p73 a1 y20 p26 y87.2 p74 (p75 ++ ([(⟨y91.Kind, y91.Shape, y91.Flags, 1, y91.Slots, y91.More⟩ : DCell)] : List DCell))))) else (minor_Collect_j67 N a1 y20 y13 p72 p74 p75)
theorem minor_Collect_l71_s {N m71 : Nat} {y13 : (DMeeter)} {a1 : (List DValue)} {y20 : ((List Int))} {p26 : (List Int)} {p72 : (List DValue)} {p73 : Int} {p74 : (List DCell)} {p75 : (List DCell)} : minor_Collect_l71 N y13 a1 y20 p26 (m71 + 1) p72 p73 p74 p75 = bif decide (p73 < (y13.met_.length : Int)) then ((getE y13.met_ p73).bind fun x82 => (minor_meeter_cell_O N y13 x82).bind fun y83 => (minor_clean_O N y83 p26 p72).bind fun y87 => (cell_Moved_O N y87.1 y13.met_ y20).bind fun y91 => (getE y20 p73).bind fun x94 => (minor_young_O N x94).bind fun y95 => bif y95 then (req (fitsL (p74.length + ([(⟨y91.Kind, y91.Shape, y91.Flags, 1, y91.Slots, y91.More⟩ : DCell)] : List DCell).length)) (minor_Collect_j78 N (minor_Collect_l71 N y13 a1 y20 p26 m71) y13 p73 a1 y20 p26 y87.2 (p74 ++ ([(⟨y91.Kind, y91.Shape, y91.Flags, 1, y91.Slots, y91.More⟩ : DCell)] : List DCell)) p75)) else (req (fitsL (p75.length + ([(⟨y91.Kind, y91.Shape, y91.Flags, 1, y91.Slots, y91.More⟩ : DCell)] : List DCell).length)) (minor_Collect_j78 N (minor_Collect_l71 N y13 a1 y20 p26 m71) y13 p73 a1 y20 p26 y87.2 p74 (p75 ++ ([(⟨y91.Kind, y91.Shape, y91.Flags, 1, y91.Slots, y91.More⟩ : DCell)] : List DCell))))) else (minor_Collect_j67 N a1 y20 y13 p72 p74 p75) := rfl
def minor_Collect_j24 (N : Nat) (a1 : (List DValue)) (y20 : ((List Int))) (y13 : (DMeeter)) (p25 : (List DValue)) (p26 : (List Int)) (p27 : (List DCell)) : Option (DMemory × (List DValue) × (List DValue) × Int) :=
 minor_Collect_l71 N y13 a1 y20 p26 N p25 0 [] p27
def minor_Collect_j41 (N : Nat) (kb28 : (List DValue) → (List Int) → Int → (List DCell) → Option (DMemory × (List DValue) × (List DValue) × Int)) (a0 : DMemory) (p31 : Int) (a1 : (List DValue)) (a2 : (List Int)) (y20 : ((List Int))) (p30 : (List Int)) (p32 : (List DCell)) (y13 : (DMeeter)) (p42 : (List DValue)) (p43 : Int) (p44 : Int) (p45 : Int) (p46 : Int) (p47 : (List DValue)) (p48 : (List DValue)) : Option (DMemory × (List DValue) × (List DValue) × Int) :=
 (cell_Moved_O N (⟨p43, p44, p45, p46, p47, p48⟩ : DCell) y13.met_ y20).bind fun y57 => req (fitsL (p32.length + ([y57] : List DCell).length)) (req (in64 (p31 + 1)) (kb28 p42 p30 (p31 + 1) (p32 ++ ([y57] : List DCell))))
def minor_Collect_l28 (N : Nat) (a0 : DMemory) (a1 : (List DValue)) (a2 : (List Int)) (y20 : ((List Int))) (y13 : (DMeeter)) : Nat → (List DValue) → (List Int) → Int → (List DCell) → Option (DMemory × (List DValue) × (List DValue) × Int)
 | 0, _, _, _, _ => none
 | m28 + 1, p29, p30, p31, p32 => bif decide (p31 < (a0.Old.length : Int)) then ((getE a0.Old p31).bind fun x36 => req (in64 (2 * p31)) (req (in64 ((2 * p31) + 2)) ((slices_Contains_O N a2 ((2 * p31) + 2)).bind fun y51 => bif y51 then ((minor_clean_O N x36 p30 p29).bind fun y53 => minor_Collect_j41 N (minor_Collect_l28 N a0 a1 a2 y20 y13 m28) a0 p31 a1 a2 y20 p30 p32 y13 y53.2 y53.1.Kind y53.1.Shape y53.1.Flags y53.1.Age y53.1.Slots y53.1.More) else (minor_Collect_j41 N (minor_Collect_l28 N a0 a1 a2 y20 y13 m28) a0 p31 a1 a2 y20 p30 p32 y13 p29 x36.Kind x36.Shape x36.Flags x36.Age x36.Slots x36.More)))) else (minor_Collect_j24 N a1 y20 y13 p29 p30 p32)
theorem minor_Collect_l28_s {N m28 : Nat} {a0 : DMemory} {a1 : (List DValue)} {a2 : (List Int)} {y20 : ((List Int))} {y13 : (DMeeter)} {p29 : (List DValue)} {p30 : (List Int)} {p31 : Int} {p32 : (List DCell)} : minor_Collect_l28 N a0 a1 a2 y20 y13 (m28 + 1) p29 p30 p31 p32 = bif decide (p31 < (a0.Old.length : Int)) then ((getE a0.Old p31).bind fun x36 => req (in64 (2 * p31)) (req (in64 ((2 * p31) + 2)) ((slices_Contains_O N a2 ((2 * p31) + 2)).bind fun y51 => bif y51 then ((minor_clean_O N x36 p30 p29).bind fun y53 => minor_Collect_j41 N (minor_Collect_l28 N a0 a1 a2 y20 y13 m28) a0 p31 a1 a2 y20 p30 p32 y13 y53.2 y53.1.Kind y53.1.Shape y53.1.Flags y53.1.Age y53.1.Slots y53.1.More) else (minor_Collect_j41 N (minor_Collect_l28 N a0 a1 a2 y20 y13 m28) a0 p31 a1 a2 y20 p30 p32 y13 p29 x36.Kind x36.Shape x36.Flags x36.Age x36.Slots x36.More)))) else (minor_Collect_j24 N a1 y20 y13 p29 p30 p32) := rfl
def minor_Collect_O (N : Nat) (a0 : DMemory) (a1 : (List DValue)) (a2 : (List Int)) : Option (DMemory × (List DValue) × (List DValue) × Int) :=
 (minor_may_O N a0 a1 a2).bind fun y7 => bif !y7 then (some ((⟨[], []⟩ : DMemory), [], [], 1)) else ((minor_all_O N a0 a1 a2).bind fun y13 => (minor_meeter_places_O N y13).bind fun y20 => (minor_meeter_live_O N y13).bind fun y22 => minor_Collect_l28 N a0 a1 a2 y20 y13 N [] y22 0 [])
set_option maxHeartbeats 4000000 in
theorem minor_Collect_ok {N : Nat} {a0 : DMemory} {a1 : (List DValue)} {a2 : (List Int)} {r : (DMemory × (List DValue) × (List DValue) × Int)} (h : minor_Collect_O N a0 a1 a2 = some r) {A1 : Option Addr} {n1 c1 : Nat} {A2 : Option Addr} {n2 c2 : Nat} {A3 : Option Addr} {n3 c3 : Nat} {A4 : Option Addr} {n4 c4 : Nat} : Okc Tryz.prog 45 [.agg #[.slice A1 n1 c1, .slice A2 n2 c2], .slice A3 n3 c3, .slice A4 n4 c4] ([kS1 A1 n1 c1 a0.Young, kS1 A2 n2 c2 a0.Old, kS0 A3 n3 c3 a1, kS5 A4 n4 c4 a2]) (fun (u : Value) (post : List Chunk) => ∃ A0 n0 c0 A1 n1 c1 A2 n2 c2 A3 n3 c3, u = .tuple #[.agg #[.slice A0 n0 c0, .slice A1 n1 c1], .slice A2 n2 c2, .slice A3 n3 c3, iV r.2.2.2] ∧ post = [kO4 A0 n0 c0 r.1.Young, kO4 A1 n1 c1 r.1.Old, kO3 A2 n2 c2 r.2.1, kO3 A3 n3 c3 r.2.2.1]) := by
 refine ok_E Tryz.func45 rfl rfl ?_
 simp only [envOf]
 refine run ?_
 refine gD (op_box rfl rfl) ?_
 rintro _ _ ⟨B5, rfl, rfl⟩
 refine gD (op_alloc zero24 rfl) ?_
 rintro _ _ ⟨B6, rfl, rfl⟩
 refine run ?_
 refine G_seq ?_
 refine run ?_
 refine gR (rd_boxS (us := [.slice A1 n1 c1, .slice A2 n2 c2]) 1 rfl rfl agg24 rfl) ?_
 refine run ?_
 obtain ⟨y7, hy7, h⟩ := bind_elim h
 refine gD (op_callR (minor_may_ok hy7) call95 rfl (mem_cons (lent_ro (i := 2) rfl rfl) (mem_cons (lent_ro (i := 3) rfl rfl) (mem_cons (lent_ro (i := 4) rfl rfl) (mem_cons (lent_ro (i := 5) rfl rfl) mem_nil)))) minor_may_free) ?_
 rintro _ _ ⟨_, ⟨rfl, rfl⟩, rfl⟩
 refine run ?_
 refine G_cond rfl (fun g8 => ?_) (fun g8 => ?_)
 ·replace h := cond_t g8 h
  refine run ?_
  refine gE (ev_build rfl (bld_24_)) ?_
  refine gO (op_store (us := [.slice none 0 0, .slice none 0 0]) (cs' := [.slice none 0 0, .slice none 0 0]) 0 rfl rfl rfl rfl size24 rfl rfl rfl) ?_
  rintro _ _ rfl
  refine run ?_
  obtain rfl := Option.some.inj h
  exact endGl (rs := [.cell 6 24, .tmp 7, .tmp 8, .tmp 9]) (vs := [.agg #[.slice none 0 0, .slice none 0 0], .slice none 0 0, .slice none 0 0, iV 1]) rfl (.cons (rv_boxS 0 rfl rfl agg24) (.cons (rv_tmp rfl) (.cons (rv_tmp rfl) (.cons (rv_tmp rfl) .nil)))) rfl ((cv_nil rDCell 32 _).trans ((cv_nil rDCell 32 _).trans ((cv_nil rDValue 38 _).trans ((cv_nil rDValue 38 _).trans (cv_sel [3, 2, 1, 0] 10 rfl rfl))))) ⟨_, _, _, _, _, _, _, _, _, _, _, _, rfl, rfl⟩
 ·replace h := cond_f g8 h
  refine run ?_
  refine gR (rd_boxS (us := [.slice A1 n1 c1, .slice A2 n2 c2]) 1 rfl rfl agg24 rfl) ?_
  refine run ?_
  obtain ⟨y13, hy13, h⟩ := bind_elim h
  refine gD (op_call (minor_all_ok hy13) call96 rfl (cv_take [2, 3, 4, 5] [] [0, 1, 2, 3, 4, 5] 6 rfl)) ?_
  rintro _ _ ⟨_, ⟨B14, A15, n15, c15, A16, n16, c16, A17, n17, c17, A18, n18, c18, M19, rfl, rfl⟩, rfl⟩
  refine run ?_
  obtain ⟨y20, hy20, h⟩ := bind_elim h
  refine gD (op_call (minor_meeter_places_ok hy20) call99 rfl (cv_take [1, 2, 3] [0, 4, 5] [1, 2, 3, 6, 7, 8, 9, 10, 11] 12 rfl)) ?_
  rintro _ _ ⟨_, ⟨A21, n21, c21, rfl, rfl⟩, rfl⟩
  refine G_norm ([kO2 A21 n21 c21 y20, boxC B14 109 [.slice A15 n15 c15, .slice A16 n16 c16, .slice A17 n17 c17, .slice A18 n18 c18, .map (some M19), iV y13.next_], kO2 A18 n18 c18 y13.met_, mapC ekI evB M19 y13.seen_, kS1 A15 n15 c15 y13.m_.Young, kS1 A16 n16 c16 y13.m_.Old, kS5 A17 n17 c17 y13.kept_, boxC B6 24 [.slice none 0 0, .slice none 0 0], boxC B5 24 [.slice A1 n1 c1, .slice A2 n2 c2], kS1 A1 n1 c1 a0.Young, kS1 A2 n2 c2 a0.Old, kS0 A3 n3 c3 a1, kS5 A4 n4 c4 a2]) rfl ?_
  refine run ?_
  obtain ⟨y22, hy22, h⟩ := bind_elim h
  refine gD (op_callR (minor_meeter_live_ok hy22) call100 rfl (mem_cons (lent_box (i := 1) rfl) (mem_cons (lent_ro (i := 4) rfl rfl) (mem_cons (lent_ro (i := 5) rfl rfl) (mem_cons (lent_ro (i := 6) rfl rfl) (mem_cons (lent_own (i := 2) rfl) (mem_cons (lent_map (i := 3) rfl) mem_nil)))))) minor_meeter_live_free) ?_
  rintro _ _ ⟨_, ⟨A23, n23, c23, rfl, rfl⟩, rfl⟩
  refine run ?_
  refine G_joinF (fun s L => ∃ (p25 : (List DValue)) (p26 : (List Int)) (p27 : (List DCell)) (A25 : Option Addr) (n25 c25 : Nat) (A26 : Option Addr) (n26 c26 : Nat) (A27 : Option Addr) (n27 c27 : Nat), minor_Collect_j24 N a1 y20 y13 p25 p26 p27 = some r ∧ s = [(1, .slice A3 n3 c3), (6, pV B6 0), (7, .slice none 0 0), (8, .slice A25 n25 c25), (9, iV 0), (10, pV B14 0), (11, .slice A21 n21 c21), (12, .slice A26 n26 c26)] ∧ L = [kS0 A3 n3 c3 a1, kO3 A25 n25 c25 p25, kO2 A21 n21 c21 y20, kS5 A26 n26 c26 p26, kO4 A27 n27 c27 p27, boxC B6 24 [.slice none 0 0, .slice A27 n27 c27], kS1 A15 n15 c15 y13.m_.Young, kS1 A16 n16 c16 y13.m_.Old, kS5 A17 n17 c17 y13.kept_, kO2 A18 n18 c18 y13.met_, mapC ekI evB M19 y13.seen_, boxC B14 109 [.slice A15 n15 c15, .slice A16 n16 c16, .slice A17 n17 c17, .slice A18 n18 c18, .map (some M19), iV y13.next_]]) ?_ ?_
  ·refine run ?_
   refine gR (rd_box1 9 rfl rfl one22 rfl) ?_
   refine gR (rd_len 11 rfl els_sl rfl Tryz.underlying22) ?_
   refine run ?_
   refine G_loopF (fun m s L => ∃ (p29 : (List DValue)) (p30 : (List Int)) (p31 : Int) (p32 : (List DCell)) (A29 : Option Addr) (n29 c29 : Nat) (A30 : Option Addr) (n30 c30 : Nat) (A32 : Option Addr) (n32 c32 : Nat), minor_Collect_l28 N a0 a1 a2 y20 y13 m p29 p30 p31 p32 = some r ∧ s = [(1, .slice A3 n3 c3), (2, .slice A4 n4 c4), (6, pV B6 0), (7, .slice none 0 0), (8, .slice A29 n29 c29), (9, iV 0), (10, pV B14 0), (11, .slice A21 n21 c21), (12, .slice A30 n30 c30), (33, .slice A2 n2 c2), (34, iV (a0.Old.length : Int)), (35, iV p31)] ∧ L = [kS0 A3 n3 c3 a1, kS5 A4 n4 c4 a2, kO3 A29 n29 c29 p29, kO2 A21 n21 c21 y20, kS5 A30 n30 c30 p30, kS1 A2 n2 c2 a0.Old, kO4 A32 n32 c32 p32, boxC B6 24 [.slice none 0 0, .slice A32 n32 c32], kS1 A15 n15 c15 y13.m_.Young, kS1 A16 n16 c16 y13.m_.Old, kS5 A17 n17 c17 y13.kept_, kO2 A18 n18 c18 y13.met_, mapC ekI evB M19 y13.seen_, boxC B14 109 [.slice A15 n15 c15, .slice A16 n16 c16, .slice A17 n17 c17, .slice A18 n18 c18, .map (some M19), iV y13.next_]]) N _ _ ⟨[], y22, 0, [], none, 0, 0, A23, n23, c23, none, 0, 0, h, rfl, rfl⟩ sA ((cv_nil rDValue 38 _).trans ((cv_frz 1 rfl).trans ((cv_nil rDCell 32 _).trans (cv_sel [14, 15, 1, 3, 2, 13, 0, 10, 7, 8, 9, 5, 6, 4] 16 rfl rfl)))) ?_
   rintro (_ | m28) _ _ ⟨p29, p30, p31, p32, A29, n29, c29, A30, n30, c30, A32, n32, c32, h, rfl, rfl⟩
   ·exact none_some h
   rw [minor_Collect_l28_s] at h
   refine run ?_
   refine G_seq ?_
   refine G_cond rfl (fun g35 => ?_) (fun g35 => ?_)
   ·replace h := cond_t g35 h
    refine run ?_
    refine G_seq ?_
    refine run ?_
    obtain ⟨x36, hx36, h⟩ := bind_elim h
    obtain ⟨lx36, ux36, hx36⟩ := getE_elim hx36
    refine gR (rd_idx 5 rfl els_sl rfl rfl Tryz.underlying22 size32 lx36 ux36) ?_
    refine G_row 5 rfl hx36 (open_DCell x36) ?_
    rintro _ _ ⟨A37, n37, c37, A38, n38, c38, rfl, rfl⟩
    refine gR (rd_rowS (us := [iV x36.Kind, iV x36.Shape, iV x36.Flags, iV x36.Age, .slice A37 n37 c37, .slice A38 n38 c38]) 0 rfl rfl agg32 rfl) ?_
    refine gD (op_alloc zero32 rfl) ?_
    rintro _ _ ⟨B40, rfl, rfl⟩
    refine run ?_
    refine gO (op_store (us := [iV x36.Kind, iV x36.Shape, iV x36.Flags, iV x36.Age, .slice A37 n37 c37, .slice A38 n38 c38]) (cs' := [iV x36.Kind, iV x36.Shape, iV x36.Flags, iV x36.Age, .slice A37 n37 c37, .slice A38 n38 c38]) 0 rfl rfl rfl rfl size32 rfl rfl rfl) ?_
    rintro _ _ rfl
    refine run ?_
    refine G_joinF (fun s L => ∃ (p42 : (List DValue)) (p43 : Int) (p44 : Int) (p45 : Int) (p46 : Int) (p47 : (List DValue)) (p48 : (List DValue)) (A42 : Option Addr) (n42 c42 : Nat) (A47 : Option Addr) (n47 c47 : Nat) (A48 : Option Addr) (n48 c48 : Nat), minor_Collect_j41 N (minor_Collect_l28 N a0 a1 a2 y20 y13 m28) a0 p31 a1 a2 y20 p30 p32 y13 p42 p43 p44 p45 p46 p47 p48 = some r ∧ s = [(1, .slice A3 n3 c3), (2, .slice A4 n4 c4), (6, pV B6 0), (7, .slice none 0 0), (8, .slice A42 n42 c42), (9, iV 0), (10, pV B14 0), (11, .slice A21 n21 c21), (12, .slice A30 n30 c30), (14, pV B40 0), (33, .slice A2 n2 c2), (34, iV (a0.Old.length : Int)), (35, iV p31)] ∧ L = [kS0 A3 n3 c3 a1, kS5 A4 n4 c4 a2, kO3 A42 n42 c42 p42, kO2 A21 n21 c21 y20, kS5 A30 n30 c30 p30, kS1 A2 n2 c2 a0.Old, kO4 A32 n32 c32 p32, boxC B6 24 [.slice none 0 0, .slice A32 n32 c32], kS1 A15 n15 c15 y13.m_.Young, kS1 A16 n16 c16 y13.m_.Old, kS5 A17 n17 c17 y13.kept_, kO2 A18 n18 c18 y13.met_, mapC ekI evB M19 y13.seen_, boxC B14 109 [.slice A15 n15 c15, .slice A16 n16 c16, .slice A17 n17 c17, .slice A18 n18 c18, .map (some M19), iV y13.next_], kS0 A47 n47 c47 p47, kS0 A48 n48 c48 p48, boxC B40 32 [iV p43, iV p44, iV p45, iV p46, .slice A47 n47 c47, .slice A48 n48 c48]]) ?_ ?_
    ·refine run ?_
     obtain ⟨q49, h⟩ := req_elim h
     refine gE (ev_mul rfl rfl q49.1 q49.2) ?_
     obtain ⟨q50, h⟩ := req_elim h
     refine gE (ev_add rfl rfl q50.1 q50.2) ?_
     obtain ⟨y51, hy51, h⟩ := bind_elim h
     refine gD (op_callR (slices_Contains_ok hy51) call101 rfl (mem_cons (lent_ro (i := 5) rfl rfl) mem_nil) slices_Contains_free) ?_
     rintro _ _ ⟨_, ⟨rfl, rfl⟩, rfl⟩
     refine run ?_
     refine G_cond rfl (fun g52 => ?_) (fun g52 => ?_)
     ·replace h := cond_t g52 h
      refine G_region ?_
      refine gR (rd_boxS (us := [iV x36.Kind, iV x36.Shape, iV x36.Flags, iV x36.Age, .slice A37 n37 c37, .slice A38 n38 c38]) 0 rfl rfl agg32 rfl) ?_
      refine run ?_
      obtain ⟨y53, hy53, h⟩ := bind_elim h
      refine gD (op_call (minor_clean_ok hy53) call102 rfl (cv_take [2, 3, 8] [6] [0, 1, 2, 3, 4, 5, 7, 8, 9, 10, 11, 12, 13, 14, 15, 16, 17] 18 rfl)) ?_
      rintro _ _ ⟨_, ⟨A54, n54, c54, A55, n55, c55, A56, n56, c56, rfl, rfl⟩, rfl⟩
      refine run ?_
      refine gO (op_store (us := [iV y53.1.Kind, iV y53.1.Shape, iV y53.1.Flags, iV y53.1.Age, .slice A54 n54 c54, .slice A55 n55 c55]) (cs' := [iV y53.1.Kind, iV y53.1.Shape, iV y53.1.Flags, iV y53.1.Age, .slice A54 n54 c54, .slice A55 n55 c55]) 3 rfl rfl rfl rfl size32 rfl rfl rfl) ?_
      rintro _ _ rfl
      refine G_norm ([kS0 A54 n54 c54 y53.1.Slots, kS0 A55 n55 c55 y53.1.More, kO3 A56 n56 c56 y53.2, boxC B40 32 [iV y53.1.Kind, iV y53.1.Shape, iV y53.1.Flags, iV y53.1.Age, .slice A54 n54 c54, .slice A55 n55 c55], rowC (elemQ (.slice A2 n2 c2) p31.toNat 6 0) [iV x36.Kind, iV x36.Shape, iV x36.Flags, iV x36.Age, .slice A37 n37 c37, .slice A38 n38 c38], kS0 A37 n37 c37 x36.Slots, kS0 A38 n38 c38 x36.More, kS0 A3 n3 c3 a1, kS5 A4 n4 c4 a2, kO2 A21 n21 c21 y20, kS5 A30 n30 c30 p30, kS1 A2 n2 c2 a0.Old, kO4 A32 n32 c32 p32, boxC B6 24 [.slice none 0 0, .slice A32 n32 c32], kS1 A15 n15 c15 y13.m_.Young, kS1 A16 n16 c16 y13.m_.Old, kS5 A17 n17 c17 y13.kept_, kO2 A18 n18 c18 y13.met_, mapC ekI evB M19 y13.seen_, boxC B14 109 [.slice A15 n15 c15, .slice A16 n16 c16, .slice A17 n17 c17, .slice A18 n18 c18, .map (some M19), iV y13.next_]]) rfl ?_
      refine run ?_
      exact ⟨_, _, ⟨y53.2, y53.1.Kind, y53.1.Shape, y53.1.Flags, y53.1.Age, y53.1.Slots, y53.1.More, A56, n56, c56, A54, n54, c54, A55, n55, c55, h, rfl, rfl⟩, sA, cv_sel [7, 8, 2, 9, 10, 11, 12, 13, 14, 15, 16, 17, 18, 19, 0, 1, 3] 20 rfl rfl⟩
     ·replace h := cond_f g52 h
      refine run ?_
      exact ⟨_, _, ⟨p29, x36.Kind, x36.Shape, x36.Flags, x36.Age, x36.Slots, x36.More, A29, n29, c29, A37, n37, c37, A38, n38, c38, h, rfl, rfl⟩, sA, cv_sel [4, 5, 6, 7, 8, 9, 10, 11, 12, 13, 14, 15, 16, 17, 2, 3, 0] 18 rfl rfl⟩
    ·rintro _ _ ⟨p42, p43, p44, p45, p46, p47, p48, A42, n42, c42, A47, n47, c47, A48, n48, c48, h, rfl, rfl⟩
     obtain ⟨y57, hy57, h⟩ := bind_elim h
     refine G_sub (t := [(1, .slice A3 n3 c3), (2, .slice A4 n4 c4), (6, pV B6 0), (7, .slice none 0 0), (8, .slice A42 n42 c42), (9, iV 0), (10, pV B14 0), (11, .slice A21 n21 c21), (12, .slice A30 n30 c30), (14, pV B40 0), (33, .slice A2 n2 c2), (34, iV (a0.Old.length : Int)), (35, iV p31)]) ?_ subT (cv_refl _)
     refine G_monoX (by kernel_rfl) 10 [] [1, 9] [52, 53, 54, 55, 56, 57, 58, 59, 60, 61] [[], [0], [], [], [3], [4], [5], [], [2, 6, 7], [8]] [aV (pV B6 1),
 aV (.slice A32 n32 c32),
 aV (.agg #[iV p43, iV p44, iV p45, iV p46, .slice A47 n47 c47, .slice A48 n48 c48]),
 aV (pV B14 0),
 aV (pV B14 0),
 aV (pV B14 3),
 aV (.slice A18 n18 c18),
 aV (.slice A21 n21 c21),
 aX6 (fun (A60 : Option Addr) (n60 c60 : Nat) (A61 : Option Addr) (n61 c61 : Nat) => .agg #[iV y57.Kind, iV y57.Shape, iV y57.Flags, iV y57.Age, .slice A60 n60 c60, .slice A61 n61 c61]) (fun A60 n60 c60 A61 n61 c61 => [kS0 A60 n60 c60 y57.Slots, kS0 A61 n61 c61 y57.More]),
 aX3 (fun (A63 : Option Addr) (n63 c63 : Nat) => .slice A63 n63 c63) (fun A63 n63 c63 => [kO4 A63 n63 c63 ([y57] : List DCell)])] [] (cv_refl _) (qB_nil) (by kernel_rfl) rfl rfl ?_ ?_ ?_
     ·exact qs_nil
     ·refine steps_cons rfl ?_ ?_
      ·intro A60 n60 c60 A61 n61 c61
       refine X_op (op_bslice (R := rDCell) (vss := [[iV y57.Kind, iV y57.Shape, iV y57.Flags, iV y57.Age, .slice A60 n60 c60, .slice A61 n61 c61]]) (xs := [y57]) rfl (bsl_22_1 _ _ _ _ _ _ _ _ _ _) rfl rfl (fun _ _ hr => .cons (⟨_, _, _, _, _, _, rfl, hr 0 _ rfl rfl, hr 1 _ rfl rfl⟩) All2.nil)) rfl ?_
       rintro _ _ ⟨A62, n62, c62, rfl, rfl⟩
       exact cvp3 A62 n62 c62 (cv_refl _)
      refine steps_cons rfl ?_ ?_
      ·refine X_op (op_callR (cell_Moved_ok hy57) call103 rfl (mem_cons (lent_ro (i := 14) rfl rfl) (mem_cons (lent_ro (i := 15) rfl rfl) (mem_cons (lent_own (i := 11) rfl) (mem_cons (lent_own (i := 3) rfl) mem_nil)))) cell_Moved_free) rfl ?_
       rintro _ _ ⟨_, ⟨A58, n58, c58, A59, n59, c59, rfl, rfl⟩, rfl⟩
       exact cvp6 A58 n58 c58 A59 n59 c59 ((cv_frz 0 rfl).trans ((cv_frz 1 rfl).trans (cv_refl _)))
      refine steps_cons rfl ?_ ?_
      ·exact X_ev (ev_move rfl) rfl (cvpV rfl (cv_refl _))
      refine steps_cons rfl ?_ ?_
      ·exact X_rd (rd_box1 13 rfl rfl one35 rfl) rfl (cvpV rfl (cv_refl _))
      refine steps_cons rfl ?_ ?_
      ·exact X_ev (ev_fa rfl fa_109_2) rfl (cvpV rfl (cv_refl _))
      refine steps_cons rfl ?_ ?_
      ·exact X_ev (ev_nilCheck rfl) rfl (cvpV rfl (cv_refl _))
      refine steps_cons rfl ?_ ?_
      ·exact X_ev (ev_move rfl) rfl (cvpV rfl (cv_refl _))
      refine steps_cons rfl ?_ ?_
      ·exact X_rd (rd_boxS (us := [iV p43, iV p44, iV p45, iV p46, .slice A47 n47 c47, .slice A48 n48 c48]) 16 rfl rfl agg32 rfl) rfl (cvpV rfl (cv_refl _))
      refine steps_cons rfl ?_ ?_
      ·exact X_rd (rd_box1 7 rfl rfl one22 rfl) rfl (cvpV rfl (cv_refl _))
      refine steps_cons rfl ?_ ?_
      ·exact X_ev (ev_fa rfl fa_24_1) rfl (cvpV rfl (cv_refl _))
      exact steps_nil
     ·intro A63 n63 c63
      refine N_sub (t := [(53, .slice A32 n32 c32), (61, .slice A63 n63 c63), (1, .slice A3 n3 c3), (2, .slice A4 n4 c4), (6, pV B6 0), (7, .slice none 0 0), (8, .slice A42 n42 c42), (9, iV 0), (10, pV B14 0), (11, .slice A21 n21 c21), (12, .slice A30 n30 c30), (14, pV B40 0), (33, .slice A2 n2 c2), (34, iV (a0.Old.length : Int)), (35, iV p31)]) (L' := [kO4 A63 n63 c63 ([y57] : List DCell), kS0 A3 n3 c3 a1, kS5 A4 n4 c4 a2, kO3 A42 n42 c42 p42, kO2 A21 n21 c21 y20, kS5 A30 n30 c30 p30, kS1 A2 n2 c2 a0.Old, kO4 A32 n32 c32 p32, boxC B6 24 [.slice none 0 0, .slice A32 n32 c32], kS1 A15 n15 c15 y13.m_.Young, kS1 A16 n16 c16 y13.m_.Old, kS5 A17 n17 c17 y13.kept_, kO2 A18 n18 c18 y13.met_, mapC ekI evB M19 y13.seen_, boxC B14 109 [.slice A15 n15 c15, .slice A16 n16 c16, .slice A17 n17 c17, .slice A18 n18 c18, .map (some M19), iV y13.next_], kS0 A47 n47 c47 p47, kS0 A48 n48 c48 p48, boxC B40 32 [iV p43, iV p44, iV p45, iV p46, .slice A47 n47 c47, .slice A48 n48 c48]]) ?_ subT (cv_refl _)
      obtain ⟨q64, h⟩ := req_elim h
      refine N_opd 10 rfl (by kernel_rfl) (op_append 7 0 rfl rfl els_own rfl rfl Tryz.underlying22 zb32 rfl rfl q64) rfl rfl rfl ?_
      rintro _ _ ⟨A65, n65, c65, rfl, rfl⟩
      refine N_ev 11 rfl (by kernel_rfl) (ev_fa rfl fa_24_1) rfl rfl rfl ?_
      refine N_opn 12 rfl (by kernel_rfl) (op_store (us := [.slice A65 n65 c65]) (cs' := [.slice none 0 0, .slice A65 n65 c65]) 8 rfl rfl rfl rfl size22 rfl rfl rfl) rfl rfl ?_
      rintro _ _ rfl
      refine N_done (by kernel_rfl) ?_
      refine run ?_
      obtain ⟨q66, h⟩ := req_elim h
      refine gE (ev_add rfl rfl q66.1 q66.2) ?_
      refine run ?_
      exact ⟨m28, _, _, Nat.lt_succ_self _, ⟨p42, p30, p31 + 1, p32 ++ ([y57] : List DCell), A42, n42, c42, A30, n30, c30, A65, n65, c65, h, rfl, rfl⟩, sA, cv_sel [1, 2, 3, 4, 5, 6, 7, 8, 9, 10, 11, 12, 13, 14] 18 rfl rfl⟩
   ·replace h := cond_f g35 h
    refine run ?_
    exact ⟨_, _, ⟨p29, p30, p32, A29, n29, c29, A30, n30, c30, A32, n32, c32, h, rfl, rfl⟩, sA, cv_sel [0, 2, 3, 4, 6, 7, 8, 9, 10, 11, 12, 13] 14 rfl rfl⟩
  ·rintro _ _ ⟨p25, p26, p27, A25, n25, c25, A26, n26, c26, A27, n27, c27, h, rfl, rfl⟩
   refine G_joinF (fun s L => ∃ (p68 : (List DValue)) (p69 : (List DCell)) (p70 : (List DCell)) (A68 : Option Addr) (n68 c68 : Nat) (A69 : Option Addr) (n69 c69 : Nat) (A70 : Option Addr) (n70 c70 : Nat), minor_Collect_j67 N a1 y20 y13 p68 p69 p70 = some r ∧ s = [(1, .slice A3 n3 c3), (6, pV B6 0), (7, .slice none 0 0), (8, .slice A68 n68 c68), (9, iV 0), (10, pV B14 0), (11, .slice A21 n21 c21)] ∧ L = [kS0 A3 n3 c3 a1, kO3 A68 n68 c68 p68, kO2 A21 n21 c21 y20, kO4 A69 n69 c69 p69, kO4 A70 n70 c70 p70, boxC B6 24 [.slice A69 n69 c69, .slice A70 n70 c70], kS1 A15 n15 c15 y13.m_.Young, kS1 A16 n16 c16 y13.m_.Old, kS5 A17 n17 c17 y13.kept_, kO2 A18 n18 c18 y13.met_, mapC ekI evB M19 y13.seen_, boxC B14 109 [.slice A15 n15 c15, .slice A16 n16 c16, .slice A17 n17 c17, .slice A18 n18 c18, .map (some M19), iV y13.next_]]) ?_ ?_
   ·refine run ?_
    refine gR (rd_box1 11 rfl rfl one35 rfl) ?_
    refine gR (rd_len 9 rfl els_own rfl Tryz.underlying35) ?_
    refine run ?_
    refine G_loopF (fun m s L => ∃ (p72 : (List DValue)) (p73 : Int) (p74 : (List DCell)) (p75 : (List DCell)) (A72 : Option Addr) (n72 c72 : Nat) (A74 : Option Addr) (n74 c74 : Nat) (A75 : Option Addr) (n75 c75 : Nat), minor_Collect_l71 N y13 a1 y20 p26 m p72 p73 p74 p75 = some r ∧ s = [(1, .slice A3 n3 c3), (6, pV B6 0), (7, .slice none 0 0), (8, .slice A72 n72 c72), (9, iV 0), (10, pV B14 0), (11, .slice A21 n21 c21), (12, .slice A26 n26 c26), (68, .slice A18 n18 c18), (69, iV (y13.met_.length : Int)), (70, iV p73)] ∧ L = [kS0 A3 n3 c3 a1, kO3 A72 n72 c72 p72, kO2 A21 n21 c21 y20, kS5 A26 n26 c26 p26, kO2 A18 n18 c18 y13.met_, kO4 A74 n74 c74 p74, kO4 A75 n75 c75 p75, boxC B6 24 [.slice A74 n74 c74, .slice A75 n75 c75], kS1 A15 n15 c15 y13.m_.Young, kS1 A16 n16 c16 y13.m_.Old, kS5 A17 n17 c17 y13.kept_, mapC ekI evB M19 y13.seen_, boxC B14 109 [.slice A15 n15 c15, .slice A16 n16 c16, .slice A17 n17 c17, .slice A18 n18 c18, .map (some M19), iV y13.next_]]) N _ _ ⟨p25, 0, [], p27, A25, n25, c25, none, 0, 0, A27, n27, c27, h, rfl, rfl⟩ sA ((cv_nil rDCell 32 _).trans (cv_sel [1, 2, 3, 4, 10, 0, 5, 6, 7, 8, 9, 11, 12] 13 rfl rfl)) ?_
    rintro (_ | m71) _ _ ⟨p72, p73, p74, p75, A72, n72, c72, A74, n74, c74, A75, n75, c75, h, rfl, rfl⟩
    ·exact none_some h
    rw [minor_Collect_l71_s] at h
    refine run ?_
    refine G_seq ?_
    refine G_cond rfl (fun g77 => ?_) (fun g77 => ?_)
    ·replace h := cond_t g77 h
     refine run ?_
     refine G_joinF (fun s L => ∃ (p79 : (List DValue)) (p80 : (List DCell)) (p81 : (List DCell)) (A79 : Option Addr) (n79 c79 : Nat) (A80 : Option Addr) (n80 c80 : Nat) (A81 : Option Addr) (n81 c81 : Nat), minor_Collect_j78 N (minor_Collect_l71 N y13 a1 y20 p26 m71) y13 p73 a1 y20 p26 p79 p80 p81 = some r ∧ s = [(1, .slice A3 n3 c3), (6, pV B6 0), (7, .slice none 0 0), (8, .slice A79 n79 c79), (9, iV 0), (10, pV B14 0), (11, .slice A21 n21 c21), (12, .slice A26 n26 c26), (68, .slice A18 n18 c18), (69, iV (y13.met_.length : Int)), (70, iV p73)] ∧ L = [kS0 A3 n3 c3 a1, kO3 A79 n79 c79 p79, kO2 A21 n21 c21 y20, kS5 A26 n26 c26 p26, kO2 A18 n18 c18 y13.met_, kO4 A80 n80 c80 p80, kO4 A81 n81 c81 p81, boxC B6 24 [.slice A80 n80 c80, .slice A81 n81 c81], kS1 A15 n15 c15 y13.m_.Young, kS1 A16 n16 c16 y13.m_.Old, kS5 A17 n17 c17 y13.kept_, mapC ekI evB M19 y13.seen_, boxC B14 109 [.slice A15 n15 c15, .slice A16 n16 c16, .slice A17 n17 c17, .slice A18 n18 c18, .map (some M19), iV y13.next_]]) ?_ ?_
     ·refine run ?_
      obtain ⟨x82, hx82, h⟩ := bind_elim h
      obtain ⟨lx82, ux82, hx82⟩ := getE_elim hx82
      refine gR (rd_idx 4 rfl els_own rfl rfl Tryz.underlying35 size3 lx82 ux82) ?_
      refine gR (rd_elem1 (u := iV x82) 4 rfl els_own rfl hx82 one3 (fun _ _ _ h => by rw [show _ = _ from h]; rfl)) ?_
      refine run ?_
      obtain ⟨y83, hy83, h⟩ := bind_elim h
      refine gD (op_call (minor_meeter_cell_ok hy83) call104 rfl (cv_take [8, 9, 10] [12, 4, 11] [0, 1, 2, 3, 5, 6, 7, 8, 9, 10] 13 rfl)) ?_
      rintro _ _ ⟨_, ⟨A84, n84, c84, A85, n85, c85, rfl, rfl⟩, rfl⟩
      refine G_norm ([kS0 A84 n84 c84 y83.Slots, kS0 A85 n85 c85 y83.More, boxC B14 109 [.slice A15 n15 c15, .slice A16 n16 c16, .slice A17 n17 c17, .slice A18 n18 c18, .map (some M19), iV y13.next_], kO2 A18 n18 c18 y13.met_, mapC ekI evB M19 y13.seen_, kS0 A3 n3 c3 a1, kO3 A72 n72 c72 p72, kO2 A21 n21 c21 y20, kS5 A26 n26 c26 p26, kO4 A74 n74 c74 p74, kO4 A75 n75 c75 p75, boxC B6 24 [.slice A74 n74 c74, .slice A75 n75 c75], kS1 A15 n15 c15 y13.m_.Young, kS1 A16 n16 c16 y13.m_.Old, kS5 A17 n17 c17 y13.kept_]) rfl ?_
      refine gD (op_alloc zero32 rfl) ?_
      rintro _ _ ⟨B86, rfl, rfl⟩
      refine gO (op_store (us := [iV y83.Kind, iV y83.Shape, iV y83.Flags, iV y83.Age, .slice A84 n84 c84, .slice A85 n85 c85]) (cs' := [iV y83.Kind, iV y83.Shape, iV y83.Flags, iV y83.Age, .slice A84 n84 c84, .slice A85 n85 c85]) 0 rfl rfl rfl rfl size32 rfl rfl rfl) ?_
      rintro _ _ rfl
      refine run ?_
      refine gR (rd_boxS (us := [iV y83.Kind, iV y83.Shape, iV y83.Flags, iV y83.Age, .slice A84 n84 c84, .slice A85 n85 c85]) 0 rfl rfl agg32 rfl) ?_
      refine run ?_
      obtain ⟨y87, hy87, h⟩ := bind_elim h
      refine gD (op_call (minor_clean_ok hy87) call102 rfl (cv_take [1, 2, 9] [7] [0, 1, 2, 3, 4, 5, 6, 8, 9, 10, 11, 12, 13, 14, 15] 16 rfl)) ?_
      rintro _ _ ⟨_, ⟨A88, n88, c88, A89, n89, c89, A90, n90, c90, rfl, rfl⟩, rfl⟩
      refine run ?_
      refine gO (op_store (us := [iV y87.1.Kind, iV y87.1.Shape, iV y87.1.Flags, iV y87.1.Age, .slice A88 n88 c88, .slice A89 n89 c89]) (cs' := [iV y87.1.Kind, iV y87.1.Shape, iV y87.1.Flags, iV y87.1.Age, .slice A88 n88 c88, .slice A89 n89 c89]) 3 rfl rfl rfl rfl size32 rfl rfl rfl) ?_
      rintro _ _ rfl
      refine G_norm ([kS0 A88 n88 c88 y87.1.Slots, kS0 A89 n89 c89 y87.1.More, kO3 A90 n90 c90 y87.2, boxC B86 32 [iV y87.1.Kind, iV y87.1.Shape, iV y87.1.Flags, iV y87.1.Age, .slice A88 n88 c88, .slice A89 n89 c89], kS0 A84 n84 c84 y83.Slots, kS0 A85 n85 c85 y83.More, boxC B14 109 [.slice A15 n15 c15, .slice A16 n16 c16, .slice A17 n17 c17, .slice A18 n18 c18, .map (some M19), iV y13.next_], kO2 A18 n18 c18 y13.met_, mapC ekI evB M19 y13.seen_, kS0 A3 n3 c3 a1, kO2 A21 n21 c21 y20, kS5 A26 n26 c26 p26, kO4 A74 n74 c74 p74, kO4 A75 n75 c75 p75, boxC B6 24 [.slice A74 n74 c74, .slice A75 n75 c75], kS1 A15 n15 c15 y13.m_.Young, kS1 A16 n16 c16 y13.m_.Old, kS5 A17 n17 c17 y13.kept_]) rfl ?_
      refine run ?_
      refine G_seq ?_
      refine G_sub (t := [(1, .slice A3 n3 c3), (6, pV B6 0), (7, .slice none 0 0), (8, .slice A90 n90 c90), (9, iV 0), (10, pV B14 0), (11, .slice A21 n21 c21), (12, .slice A26 n26 c26), (15, iV p73), (17, pV B86 0), (68, .slice A18 n18 c18), (69, iV (y13.met_.length : Int)), (70, iV p73)]) ?_ subT (cv_refl _)
      refine G_monoX (by kernel_rfl) 6 [] [0, 4, 5] [85, 86, 87, 88, 89, 90] [[], [], [1], [2], [3], []] [aV (.agg #[iV y87.1.Kind, iV y87.1.Shape, iV y87.1.Flags, iV y87.1.Age, .slice A88 n88 c88, .slice A89 n89 c89]),
 aV (pV B14 0),
 aV (pV B14 0),
 aV (pV B14 3),
 aV (.slice A18 n18 c18),
 aV (.slice A21 n21 c21)] [] (cv_refl _) (qB_nil) (by kernel_rfl) rfl rfl ?_ ?_ ?_
      ·exact qs_nil
      ·refine steps_cons rfl ?_ ?_
       ·exact X_ev (ev_move rfl) rfl (cvpV rfl (cv_refl _))
       refine steps_cons rfl ?_ ?_
       ·exact X_rd (rd_box1 6 rfl rfl one35 rfl) rfl (cvpV rfl (cv_refl _))
       refine steps_cons rfl ?_ ?_
       ·exact X_ev (ev_fa rfl fa_109_2) rfl (cvpV rfl (cv_refl _))
       refine steps_cons rfl ?_ ?_
       ·exact X_ev (ev_nilCheck rfl) rfl (cvpV rfl (cv_refl _))
       refine steps_cons rfl ?_ ?_
       ·exact X_ev (ev_move rfl) rfl (cvpV rfl (cv_refl _))
       refine steps_cons rfl ?_ ?_
       ·exact X_rd (rd_boxS (us := [iV y87.1.Kind, iV y87.1.Shape, iV y87.1.Flags, iV y87.1.Age, .slice A88 n88 c88, .slice A89 n89 c89]) 3 rfl rfl agg32 rfl) rfl (cvpV rfl (cv_refl _))
       exact steps_nil
      ·refine N_sub (t := [(85, .agg #[iV y87.1.Kind, iV y87.1.Shape, iV y87.1.Flags, iV y87.1.Age, .slice A88 n88 c88, .slice A89 n89 c89]), (89, .slice A18 n18 c18), (90, .slice A21 n21 c21), (1, .slice A3 n3 c3), (6, pV B6 0), (7, .slice none 0 0), (8, .slice A90 n90 c90), (9, iV 0), (10, pV B14 0), (11, .slice A21 n21 c21), (12, .slice A26 n26 c26), (15, iV p73), (17, pV B86 0), (68, .slice A18 n18 c18), (69, iV (y13.met_.length : Int)), (70, iV p73)]) (L' := [kS0 A88 n88 c88 y87.1.Slots, kS0 A89 n89 c89 y87.1.More, kO3 A90 n90 c90 y87.2, boxC B86 32 [iV y87.1.Kind, iV y87.1.Shape, iV y87.1.Flags, iV y87.1.Age, .slice A88 n88 c88, .slice A89 n89 c89], kS0 A84 n84 c84 y83.Slots, kS0 A85 n85 c85 y83.More, boxC B14 109 [.slice A15 n15 c15, .slice A16 n16 c16, .slice A17 n17 c17, .slice A18 n18 c18, .map (some M19), iV y13.next_], kO2 A18 n18 c18 y13.met_, mapC ekI evB M19 y13.seen_, kS0 A3 n3 c3 a1, kO2 A21 n21 c21 y20, kS5 A26 n26 c26 p26, kO4 A74 n74 c74 p74, kO4 A75 n75 c75 p75, boxC B6 24 [.slice A74 n74 c74, .slice A75 n75 c75], kS1 A15 n15 c15 y13.m_.Young, kS1 A16 n16 c16 y13.m_.Old, kS5 A17 n17 c17 y13.kept_]) ?_ subT (cv_refl _)
       obtain ⟨y91, hy91, h⟩ := bind_elim h
       refine N_opd 6 rfl (by kernel_rfl) (op_callR (cell_Moved_ok hy91) call103 rfl (mem_cons (lent_ro (i := 0) rfl rfl) (mem_cons (lent_ro (i := 1) rfl rfl) (mem_cons (lent_own (i := 7) rfl) (mem_cons (lent_own (i := 10) rfl) mem_nil)))) cell_Moved_free) rfl rfl rfl ?_
       rintro _ _ ⟨_, ⟨A92, n92, c92, A93, n93, c93, rfl, rfl⟩, rfl⟩
       refine N_opn 7 rfl (by kernel_rfl) (op_store (us := [iV y91.Kind, iV y91.Shape, iV y91.Flags, iV y91.Age, .slice A92 n92 c92, .slice A93 n93 c93]) (cs' := [iV y91.Kind, iV y91.Shape, iV y91.Flags, iV y91.Age, .slice A92 n92 c92, .slice A93 n93 c93]) 5 rfl rfl rfl rfl size32 rfl rfl rfl) rfl rfl ?_
       rintro _ _ rfl
       refine N_done (by kernel_rfl) ?_
       refine run ?_
       refine gO (op_store (us := [iV 1]) (cs' := [iV y91.Kind, iV y91.Shape, iV y91.Flags, iV 1, .slice A92 n92 c92, .slice A93 n93 c93]) 5 rfl rfl rfl rfl size3 rfl rfl rfl) ?_
       rintro _ _ rfl
       refine run ?_
       obtain ⟨x94, hx94, h⟩ := bind_elim h
       obtain ⟨lx94, ux94, hx94⟩ := getE_elim hx94
       refine gR (rd_idx 12 rfl els_own rfl rfl Tryz.underlying35 size3 lx94 ux94) ?_
       refine gR (rd_elem1 (u := iV x94) 12 rfl els_own rfl hx94 one3 (fun _ _ _ h => by rw [show _ = _ from h]; rfl)) ?_
       obtain ⟨y95, hy95, h⟩ := bind_elim h
       refine gD (op_callR (minor_young_ok hy95) call105 rfl (mem_nil) minor_young_free) ?_
       rintro _ _ ⟨_, ⟨rfl, rfl⟩, rfl⟩
       refine run ?_
       refine G_cond rfl (fun g96 => ?_) (fun g96 => ?_)
       ·replace h := cond_t g96 h
        refine run ?_
        refine gR (rd_box1 16 rfl rfl one22 rfl) ?_
        refine gR (rd_boxS (us := [iV y91.Kind, iV y91.Shape, iV y91.Flags, iV 1, .slice A92 n92 c92, .slice A93 n93 c93]) 5 rfl rfl agg32 rfl) ?_
        refine G_cv (cv_frz 0 rfl) ?_
        refine G_norm ([kS0 A92 n92 c92 y91.Slots, kO3 A93 n93 c93 y91.More, kS0 A88 n88 c88 y87.1.Slots, kS0 A89 n89 c89 y87.1.More, kO3 A90 n90 c90 y87.2, boxC B86 32 [iV y91.Kind, iV y91.Shape, iV y91.Flags, iV 1, .slice A92 n92 c92, .slice A93 n93 c93], kS0 A84 n84 c84 y83.Slots, kS0 A85 n85 c85 y83.More, boxC B14 109 [.slice A15 n15 c15, .slice A16 n16 c16, .slice A17 n17 c17, .slice A18 n18 c18, .map (some M19), iV y13.next_], kO2 A18 n18 c18 y13.met_, mapC ekI evB M19 y13.seen_, kS0 A3 n3 c3 a1, kO2 A21 n21 c21 y20, kS5 A26 n26 c26 p26, kO4 A74 n74 c74 p74, kO4 A75 n75 c75 p75, boxC B6 24 [.slice A74 n74 c74, .slice A75 n75 c75], kS1 A15 n15 c15 y13.m_.Young, kS1 A16 n16 c16 y13.m_.Old, kS5 A17 n17 c17 y13.kept_]) rfl ?_
        refine G_cv (cv_frz 1 rfl) ?_
        refine gD (op_bslice (R := rDCell) (vss := [[iV y91.Kind, iV y91.Shape, iV y91.Flags, iV 1, .slice A92 n92 c92, .slice A93 n93 c93]]) (xs := [(⟨y91.Kind, y91.Shape, y91.Flags, 1, y91.Slots, y91.More⟩ : DCell)]) rfl (bsl_22_1 _ _ _ _ _ _ _ _ _ _) rfl rfl (fun _ _ hr => .cons (⟨_, _, _, _, _, _, rfl, hr 0 _ rfl rfl, hr 1 _ rfl rfl⟩) All2.nil)) ?_
        rintro _ _ ⟨A97, n97, c97, rfl, rfl⟩
        obtain ⟨q98, h⟩ := req_elim h
        refine gD (op_append 15 0 rfl rfl els_own rfl rfl Tryz.underlying22 zb32 rfl rfl q98) ?_
        rintro _ _ ⟨A99, n99, c99, rfl, rfl⟩
        refine run ?_
        refine gO (op_store (us := [.slice A99 n99 c99]) (cs' := [.slice A99 n99 c99, .slice A75 n75 c75]) 17 rfl rfl rfl rfl size22 rfl rfl rfl) ?_
        rintro _ _ rfl
        refine G_norm ([kO4 A97 n97 c97 ([(⟨y91.Kind, y91.Shape, y91.Flags, 1, y91.Slots, y91.More⟩ : DCell)] : List DCell), kS0 A92 n92 c92 y91.Slots, kS0 A93 n93 c93 y91.More, kS0 A88 n88 c88 y87.1.Slots, kS0 A89 n89 c89 y87.1.More, kO3 A90 n90 c90 y87.2, boxC B86 32 [iV y91.Kind, iV y91.Shape, iV y91.Flags, iV 1, .slice A92 n92 c92, .slice A93 n93 c93], kS0 A84 n84 c84 y83.Slots, kS0 A85 n85 c85 y83.More, boxC B14 109 [.slice A15 n15 c15, .slice A16 n16 c16, .slice A17 n17 c17, .slice A18 n18 c18, .map (some M19), iV y13.next_], kO2 A18 n18 c18 y13.met_, mapC ekI evB M19 y13.seen_, kS0 A3 n3 c3 a1, kO2 A21 n21 c21 y20, kS5 A26 n26 c26 p26, kO4 A99 n99 c99 (p74 ++ ([(⟨y91.Kind, y91.Shape, y91.Flags, 1, y91.Slots, y91.More⟩ : DCell)] : List DCell)), kO4 A75 n75 c75 p75, boxC B6 24 [.slice A99 n99 c99, .slice A75 n75 c75], kS1 A15 n15 c15 y13.m_.Young, kS1 A16 n16 c16 y13.m_.Old, kS5 A17 n17 c17 y13.kept_]) rfl ?_
        refine run ?_
        exact ⟨_, _, ⟨y87.2, p74 ++ ([(⟨y91.Kind, y91.Shape, y91.Flags, 1, y91.Slots, y91.More⟩ : DCell)] : List DCell), p75, A90, n90, c90, A99, n99, c99, A75, n75, c75, h, rfl, rfl⟩, sA, cv_sel [12, 5, 13, 14, 10, 15, 16, 17, 18, 19, 20, 11, 9] 21 rfl rfl⟩
       ·replace h := cond_f g96 h
        refine run ?_
        refine gR (rd_box1 16 rfl rfl one22 rfl) ?_
        refine gR (rd_boxS (us := [iV y91.Kind, iV y91.Shape, iV y91.Flags, iV 1, .slice A92 n92 c92, .slice A93 n93 c93]) 5 rfl rfl agg32 rfl) ?_
        refine G_cv (cv_frz 0 rfl) ?_
        refine G_cv (cv_frz 1 rfl) ?_
        refine gD (op_bslice (R := rDCell) (vss := [[iV y91.Kind, iV y91.Shape, iV y91.Flags, iV 1, .slice A92 n92 c92, .slice A93 n93 c93]]) (xs := [(⟨y91.Kind, y91.Shape, y91.Flags, 1, y91.Slots, y91.More⟩ : DCell)]) rfl (bsl_22_1 _ _ _ _ _ _ _ _ _ _) rfl rfl (fun _ _ hr => .cons (⟨_, _, _, _, _, _, rfl, hr 0 _ rfl rfl, hr 1 _ rfl rfl⟩) All2.nil)) ?_
        rintro _ _ ⟨A100, n100, c100, rfl, rfl⟩
        obtain ⟨q101, h⟩ := req_elim h
        refine gD (op_append 16 0 rfl rfl els_own rfl rfl Tryz.underlying22 zb32 rfl rfl q101) ?_
        rintro _ _ ⟨A102, n102, c102, rfl, rfl⟩
        refine G_norm ([kO4 A100 n100 c100 ([(⟨y91.Kind, y91.Shape, y91.Flags, 1, y91.Slots, y91.More⟩ : DCell)] : List DCell), kS0 A92 n92 c92 y91.Slots, kS0 A93 n93 c93 y91.More, kS0 A88 n88 c88 y87.1.Slots, kS0 A89 n89 c89 y87.1.More, kO3 A90 n90 c90 y87.2, boxC B86 32 [iV y91.Kind, iV y91.Shape, iV y91.Flags, iV 1, .slice A92 n92 c92, .slice A93 n93 c93], kS0 A84 n84 c84 y83.Slots, kS0 A85 n85 c85 y83.More, boxC B14 109 [.slice A15 n15 c15, .slice A16 n16 c16, .slice A17 n17 c17, .slice A18 n18 c18, .map (some M19), iV y13.next_], kO2 A18 n18 c18 y13.met_, mapC ekI evB M19 y13.seen_, kS0 A3 n3 c3 a1, kO2 A21 n21 c21 y20, kS5 A26 n26 c26 p26, kO4 A74 n74 c74 p74, kO4 A102 n102 c102 (p75 ++ ([(⟨y91.Kind, y91.Shape, y91.Flags, 1, y91.Slots, y91.More⟩ : DCell)] : List DCell)), boxC B6 24 [.slice A74 n74 c74, .slice A75 n75 c75], kS1 A15 n15 c15 y13.m_.Young, kS1 A16 n16 c16 y13.m_.Old, kS5 A17 n17 c17 y13.kept_]) rfl ?_
        refine run ?_
        refine gO (op_store (us := [.slice A102 n102 c102]) (cs' := [.slice A74 n74 c74, .slice A102 n102 c102]) 17 rfl rfl rfl rfl size22 rfl rfl rfl) ?_
        rintro _ _ rfl
        refine run ?_
        exact ⟨_, _, ⟨y87.2, p74, p75 ++ ([(⟨y91.Kind, y91.Shape, y91.Flags, 1, y91.Slots, y91.More⟩ : DCell)] : List DCell), A90, n90, c90, A74, n74, c74, A102, n102, c102, h, rfl, rfl⟩, sA, cv_sel [12, 5, 13, 14, 10, 15, 16, 17, 18, 19, 20, 11, 9] 21 rfl rfl⟩
     ·rintro _ _ ⟨p79, p80, p81, A79, n79, c79, A80, n80, c80, A81, n81, c81, h, rfl, rfl⟩
      refine G_region ?_
      obtain ⟨q103, h⟩ := req_elim h
      refine gE (ev_add rfl rfl q103.1 q103.2) ?_
      refine run ?_
      exact ⟨m71, _, _, Nat.lt_succ_self _, ⟨p79, p73 + 1, p80, p81, A79, n79, c79, A80, n80, c80, A81, n81, c81, h, rfl, rfl⟩, sA, cv_sel [0, 1, 2, 3, 4, 5, 6, 7, 8, 9, 10, 11, 12] 13 rfl rfl⟩
    ·replace h := cond_f g77 h
     refine run ?_
     exact ⟨_, _, ⟨p72, p74, p75, A72, n72, c72, A74, n74, c74, A75, n75, c75, h, rfl, rfl⟩, sA, cv_sel [0, 1, 2, 5, 6, 7, 8, 9, 10, 4, 11, 12] 13 rfl rfl⟩
   ·rintro _ _ ⟨p68, p69, p70, A68, n68, c68, A69, n69, c69, A70, n70, c70, h, rfl, rfl⟩
    refine G_seq ?_
    refine G_drawn (by kernel_rfl) _ (cv_refl _) ?_
    refine T3_rd 0 rfl (by kernel_rfl) (rd_boxS (us := [.slice A69 n69 c69, .slice A70 n70 c70]) 5 rfl rfl agg24 rfl) rfl rfl ?_
    refine T3_ev 1 rfl (by kernel_rfl) (ev_move rfl) rfl rfl ?_
    refine T3_ev 2 rfl (by kernel_rfl) (ev_move rfl) rfl rfl ?_
    refine T3_ev 3 rfl (by kernel_rfl) (ev_nilCheck rfl) rfl rfl ?_
    refine T3_ev 4 rfl (by kernel_rfl) (ev_fa rfl fa_109_2) rfl rfl ?_
    refine T3_rd 5 rfl (by kernel_rfl) (rd_box1 11 rfl rfl one35 rfl) rfl rfl ?_
    refine T3_ev 6 rfl (by kernel_rfl) (ev_move rfl) rfl rfl ?_
    refine T3_ev 8 rfl (by kernel_rfl) (ev_move rfl) rfl rfl ?_
    refine T3_ev 9 rfl (by kernel_rfl) (ev_move rfl) rfl rfl ?_
    refine T3_ev 10 rfl (by kernel_rfl) (ev_nilCheck rfl) rfl rfl ?_
    refine T3_ev 11 rfl (by kernel_rfl) (ev_fa rfl fa_109_2) rfl rfl ?_
    refine T3_rd 12 rfl (by kernel_rfl) (rd_box1 11 rfl rfl one35 rfl) rfl rfl ?_
    refine T3_ev 13 rfl (by kernel_rfl) (ev_move rfl) rfl rfl ?_
    obtain ⟨y104, hy104, h⟩ := bind_elim h
    refine T3_opd 7 rfl (by kernel_rfl) (op_callR (minor_moved_ok hy104) call106 rfl (mem_cons (lent_ro (i := 0) rfl rfl) (mem_cons (lent_own (i := 9) rfl) (mem_cons (lent_own (i := 2) rfl) mem_nil))) minor_moved_free) rfl rfl rfl ?_
    rintro _ _ ⟨_, ⟨A105, n105, c105, rfl, rfl⟩, rfl⟩
    refine ⟨[kS0 A3 n3 c3 a1, kO3 A68 n68 c68 p68, kO2 A21 n21 c21 y20, kO4 A69 n69 c69 p69, kO4 A70 n70 c70 p70, boxC B6 24 [.slice A69 n69 c69, .slice A70 n70 c70], kS1 A15 n15 c15 y13.m_.Young, kS1 A16 n16 c16 y13.m_.Old, kS5 A17 n17 c17 y13.kept_, kO2 A18 n18 c18 y13.met_, mapC ekI evB M19 y13.seen_, boxC B14 109 [.slice A15 n15 c15, .slice A16 n16 c16, .slice A17 n17 c17, .slice A18 n18 c18, .map (some M19), iV y13.next_]], cv_sel [1, 2, 3, 4, 5, 6, 7, 8, 9, 10, 11, 12] 13 rfl rfl, cv_refl _, ?_⟩
    obtain ⟨y106, hy106, h⟩ := bind_elim h
    refine T3_opd 14 rfl (by kernel_rfl) (op_callR (minor_moved_ok hy106) call106 rfl (mem_cons (lent_own (i := 2) rfl) (mem_cons (lent_own (i := 10) rfl) (mem_cons (lent_own (i := 3) rfl) mem_nil))) minor_moved_free) rfl rfl rfl ?_
    rintro _ _ ⟨_, ⟨A107, n107, c107, rfl, rfl⟩, rfl⟩
    refine ⟨[kS0 A3 n3 c3 a1, kO3 A68 n68 c68 p68, kO2 A21 n21 c21 y20, kO4 A69 n69 c69 p69, kO4 A70 n70 c70 p70, boxC B6 24 [.slice A69 n69 c69, .slice A70 n70 c70], kS1 A15 n15 c15 y13.m_.Young, kS1 A16 n16 c16 y13.m_.Old, kS5 A17 n17 c17 y13.kept_, kO2 A18 n18 c18 y13.met_, mapC ekI evB M19 y13.seen_, boxC B14 109 [.slice A15 n15 c15, .slice A16 n16 c16, .slice A17 n17 c17, .slice A18 n18 c18, .map (some M19), iV y13.next_]], cv_sel [2, 3, 4, 5, 6, 7, 8, 9, 10, 11, 12, 13] 14 rfl rfl, cv_refl _, ?_⟩
    refine T3_opn 15 rfl (by kernel_rfl) (op_store (us := [.slice A69 n69 c69, .slice A70 n70 c70]) (cs' := [.slice A69 n69 c69, .slice A70 n70 c70]) 7 rfl rfl rfl rfl size24 rfl rfl rfl) rfl rfl ?_
    rintro _ _ rfl
    refine ⟨[kS0 A3 n3 c3 a1, kO3 A68 n68 c68 p68, kO2 A21 n21 c21 y20, kO4 A69 n69 c69 p69, kO4 A70 n70 c70 p70, boxC B6 24 [.slice A69 n69 c69, .slice A70 n70 c70], kS1 A15 n15 c15 y13.m_.Young, kS1 A16 n16 c16 y13.m_.Old, kS5 A17 n17 c17 y13.kept_, kO2 A18 n18 c18 y13.met_, mapC ekI evB M19 y13.seen_, boxC B14 109 [.slice A15 n15 c15, .slice A16 n16 c16, .slice A17 n17 c17, .slice A18 n18 c18, .map (some M19), iV y13.next_]], cv_sel [2, 3, 4, 5, 6, 7, 8, 9, 10, 11, 12, 13] 14 rfl rfl, cv_refl _, ?_⟩
    refine T3_norm ([kO3 A107 n107 c107 y106, kO3 A105 n105 c105 y104, kS0 A3 n3 c3 a1, kO3 A68 n68 c68 p68, kO2 A21 n21 c21 y20, kO4 A69 n69 c69 p69, kO4 A70 n70 c70 p70, boxC B6 24 [.slice A69 n69 c69, .slice A70 n70 c70], kS1 A15 n15 c15 y13.m_.Young, kS1 A16 n16 c16 y13.m_.Old, kS5 A17 n17 c17 y13.kept_, kO2 A18 n18 c18 y13.met_, mapC ekI evB M19 y13.seen_, boxC B14 109 [.slice A15 n15 c15, .slice A16 n16 c16, .slice A17 n17 c17, .slice A18 n18 c18, .map (some M19), iV y13.next_]]) rfl ?_
    refine T3_ev 16 rfl (by kernel_rfl) (ev_assign rfl) rfl rfl ?_
    refine T3_ev 17 rfl (by kernel_rfl) (ev_assign rfl) rfl rfl ?_
    refine T3_ev 18 rfl (by kernel_rfl) (ev_assign rfl) rfl rfl ?_
    refine T3_done (by kernel_rfl) ?_
    refine run ?_
    obtain rfl := Option.some.inj h
    exact endGl (rs := [.cell 6 24, .tmp 7, .tmp 8, .tmp 9]) (vs := [.agg #[.slice A69 n69 c69, .slice A70 n70 c70], .slice A105 n105 c105, .slice A107 n107 c107, iV 0]) rfl (.cons (rv_boxS 7 rfl rfl agg24) (.cons (rv_tmp rfl) (.cons (rv_tmp rfl) (.cons (rv_tmp rfl) .nil)))) rfl (cv_sel [5, 6, 1, 0] 14 rfl rfl) ⟨_, _, _, _, _, _, _, _, _, _, _, _, rfl, rfl⟩
def w20_awake_O (N : Nat) : Option Bool :=
 (w20_object_O N 3).bind fun y1 => (w20_object_O N 1).bind fun y10 => (minor_Collect_O N (⟨([(⟨1, 0, 0, 0, ([(⟨1, 0, ⟨#[]⟩⟩ : DValue), y1] : List DValue), []⟩ : DCell), (⟨1, 0, 0, 1, ([(⟨1, 0, ⟨#[]⟩⟩ : DValue)] : List DValue), []⟩ : DCell), (⟨1, 0, 0, 1, ([(⟨1, 0, ⟨#[]⟩⟩ : DValue)] : List DValue), []⟩ : DCell)] : List DCell), []⟩ : DMemory) ([y10] : List DValue) []).bind fun y13 => (bif decide (y13.2.2.2 = 0) then (some (decide ((y13.1.Young.length : Int) = 1))) else (some false)).bind fun b42 => ((bif b42 then ((getE y13.1.Young 0).bind fun x44 => some (decide (x44.Age = 1))) else (some false)).bind fun b43 => ((bif b43 then ((getE y13.1.Young 0).bind fun x46 => (getE x46.Slots 1).bind fun x51 => (w20_object_O N 2).bind fun y54 => some (decide (x51 = y54))) else (some false)).bind fun b45 => ((bif b45 then (some (decide ((y13.1.Old.length : Int) = 1))) else (some false)).bind fun b55 => ((bif b55 then (some (decide ((y13.2.1.length : Int) = 1))) else (some false)).bind fun b56 => ((bif b56 then ((getE y13.2.1 0).bind fun x58 => (w20_object_O N 1).bind fun y59 => some (decide (x58 = y59))) else (some false)).bind fun b57 => ((bif b57 then (some (decide ((y13.2.2.1.length : Int) = 0))) else (some false)).bind fun b60 => (some b60)))))))
set_option maxHeartbeats 4000000 in
theorem w20_awake_ok {N : Nat} {r : Bool} (h : w20_awake_O N = some r) : Okc Tryz.prog 36 [] ([]) (fun (u : Value) (post : List Chunk) => u = .bool r ∧ post = []) := by
 refine ok_E Tryz.func36 rfl rfl ?_
 simp only [envOf]
 refine run ?_
 refine gE (ev_build rfl (bld_38_0 _)) ?_
 obtain ⟨y1, hy1, h⟩ := bind_elim h
 refine gD (op_callR (w20_object_ok hy1) call88 rfl (mem_nil) w20_object_free) ?_
 rintro _ _ ⟨_, ⟨rfl, rfl⟩, rfl⟩
 refine gD (op_bslice (R := rDValue) (vss := [[iV 1, iV 0, .string (⟨#[]⟩)], [iV y1.Kind, iV y1.N, .string y1.S]]) (xs := [(⟨1, 0, ⟨#[]⟩⟩ : DValue), y1]) rfl (bsl_25_2 _ _ _ _ _ _) rfl rfl (fun _ _ hr => .cons rfl (.cons rfl All2.nil))) ?_
 rintro _ _ ⟨A2, n2, c2, rfl, rfl⟩
 refine gE (ev_build rfl (bld_32_0_4 _ _ _ _)) ?_
 refine gD (op_alloc zero32 rfl) ?_
 rintro _ _ ⟨B3, rfl, rfl⟩
 refine gO (op_store (us := [iV 1, iV 0, iV 0, iV 0, .slice A2 n2 c2, .slice none 0 0]) (cs' := [iV 1, iV 0, iV 0, iV 0, .slice A2 n2 c2, .slice none 0 0]) 0 rfl rfl rfl rfl size32 rfl rfl rfl) ?_
 rintro _ _ rfl
 refine G_norm ([boxC B3 32 [iV 1, iV 0, iV 0, iV 0, .slice A2 n2 c2, .slice none 0 0], kO3 A2 n2 c2 ([(⟨1, 0, ⟨#[]⟩⟩ : DValue), y1] : List DValue)]) rfl ?_
 refine run ?_
 refine gE (ev_build rfl (bld_38_0 _)) ?_
 refine gD (op_bslice (R := rDValue) (vss := [[iV 1, iV 0, .string (⟨#[]⟩)]]) (xs := [(⟨1, 0, ⟨#[]⟩⟩ : DValue)]) rfl (bsl_25_1 _ _ _) rfl rfl (fun _ _ hr => .cons rfl All2.nil)) ?_
 rintro _ _ ⟨A4, n4, c4, rfl, rfl⟩
 refine gE (ev_build rfl (bld_32_0_3_4 _ _ _ _ _)) ?_
 refine gD (op_alloc zero32 rfl) ?_
 rintro _ _ ⟨B5, rfl, rfl⟩
 refine gO (op_store (us := [iV 1, iV 0, iV 0, iV 1, .slice A4 n4 c4, .slice none 0 0]) (cs' := [iV 1, iV 0, iV 0, iV 1, .slice A4 n4 c4, .slice none 0 0]) 0 rfl rfl rfl rfl size32 rfl rfl rfl) ?_
 rintro _ _ rfl
 refine G_norm ([boxC B5 32 [iV 1, iV 0, iV 0, iV 1, .slice A4 n4 c4, .slice none 0 0], kO3 A4 n4 c4 ([(⟨1, 0, ⟨#[]⟩⟩ : DValue)] : List DValue), boxC B3 32 [iV 1, iV 0, iV 0, iV 0, .slice A2 n2 c2, .slice none 0 0], kO3 A2 n2 c2 ([(⟨1, 0, ⟨#[]⟩⟩ : DValue), y1] : List DValue)]) rfl ?_
 refine run ?_
 refine G_seq ?_
 refine G_sub ?_ sub_refl (cv_frz 1 rfl)
 refine Wq_norm ([boxC B5 32 [iV 1, iV 0, iV 0, iV 1, .slice A4 n4 c4, .slice none 0 0], kS0 A4 n4 c4 ([(⟨1, 0, ⟨#[]⟩⟩ : DValue)] : List DValue), boxC B3 32 [iV 1, iV 0, iV 0, iV 0, .slice A2 n2 c2, .slice none 0 0], kO3 A2 n2 c2 ([(⟨1, 0, ⟨#[]⟩⟩ : DValue), y1] : List DValue)]) rfl ?_
 refine G_sub ?_ sub_refl (cv_frz 3 rfl)
 refine Wq_norm ([boxC B5 32 [iV 1, iV 0, iV 0, iV 1, .slice A4 n4 c4, .slice none 0 0], kS0 A4 n4 c4 ([(⟨1, 0, ⟨#[]⟩⟩ : DValue)] : List DValue), boxC B3 32 [iV 1, iV 0, iV 0, iV 0, .slice A2 n2 c2, .slice none 0 0], kS0 A2 n2 c2 ([(⟨1, 0, ⟨#[]⟩⟩ : DValue), y1] : List DValue)]) rfl ?_
 obtain ⟨y10, hy10, h⟩ := bind_elim h
 obtain ⟨y13, hy13, h⟩ := bind_elim h
 refine G_sub (t := [(0, .bool false), (1, pV B3 0), (2, pV B5 0)]) ?_ subT (cv_refl _)
 refine G_monoX (by kernel_rfl) 14 [10, 11, 12] [9, 10, 11, 12, 13] [15, 16, 17, 18, 19, 20, 21, 22, 14, 23, 24, 25, 26, 3] [[], [], [], [0, 1, 2], [3], [], [5], [4, 6], [7], [8], [8], [8], [8], []] [aV (.agg #[iV 1, iV 0, iV 0, iV 0, .slice A2 n2 c2, .slice none 0 0]),
 aV (.agg #[iV 1, iV 0, iV 0, iV 1, .slice A4 n4 c4, .slice none 0 0]),
 aV (.agg #[iV 1, iV 0, iV 0, iV 1, .slice A4 n4 c4, .slice none 0 0]),
 aX3 (fun (A7 : Option Addr) (n7 c7 : Nat) => .slice A7 n7 c7) (fun A7 n7 c7 => [kS1 A7 n7 c7 ([(⟨1, 0, 0, 0, ([(⟨1, 0, ⟨#[]⟩⟩ : DValue), y1] : List DValue), []⟩ : DCell), (⟨1, 0, 0, 1, ([(⟨1, 0, ⟨#[]⟩⟩ : DValue)] : List DValue), []⟩ : DCell), (⟨1, 0, 0, 1, ([(⟨1, 0, ⟨#[]⟩⟩ : DValue)] : List DValue), []⟩ : DCell)] : List DCell)]),
 aX3 (fun (A8 : Option Addr) (n8 c8 : Nat) => .agg #[.slice A8 n8 c8, .slice none 0 0]) (fun A8 n8 c8 => [kS1 A8 n8 c8 ([(⟨1, 0, 0, 0, ([(⟨1, 0, ⟨#[]⟩⟩ : DValue), y1] : List DValue), []⟩ : DCell), (⟨1, 0, 0, 1, ([(⟨1, 0, ⟨#[]⟩⟩ : DValue)] : List DValue), []⟩ : DCell), (⟨1, 0, 0, 1, ([(⟨1, 0, ⟨#[]⟩⟩ : DValue)] : List DValue), []⟩ : DCell)] : List DCell)]),
 aV (.agg #[iV y10.Kind, iV y10.N, .string y10.S]),
 aX3 (fun (A12 : Option Addr) (n12 c12 : Nat) => .slice A12 n12 c12) (fun A12 n12 c12 => [kS0 A12 n12 c12 ([y10] : List DValue)]),
 aX12 (fun (A20 : Option Addr) (n20 c20 : Nat) (A21 : Option Addr) (n21 c21 : Nat) (A22 : Option Addr) (n22 c22 : Nat) (A23 : Option Addr) (n23 c23 : Nat) => .tuple #[.agg #[.slice A20 n20 c20, .slice A21 n21 c21], .slice A22 n22 c22, .slice A23 n23 c23, iV y13.2.2.2]) (fun A20 n20 c20 A21 n21 c21 A22 n22 c22 A23 n23 c23 => [kS1 A20 n20 c20 y13.1.Young, kS1 A21 n21 c21 y13.1.Old, kS0 A22 n22 c22 y13.2.1, kS0 A23 n23 c23 y13.2.2.1]),
 aX12 (fun (A24 : Option Addr) (n24 c24 : Nat) (A25 : Option Addr) (n25 c25 : Nat) (A26 : Option Addr) (n26 c26 : Nat) (A27 : Option Addr) (n27 c27 : Nat) => .tuple #[.agg #[.slice A24 n24 c24, .slice A25 n25 c25], .slice A26 n26 c26, .slice A27 n27 c27, iV y13.2.2.2]) (fun A24 n24 c24 A25 n25 c25 A26 n26 c26 A27 n27 c27 => [kS1 A24 n24 c24 y13.1.Young, kS1 A25 n25 c25 y13.1.Old, kS0 A26 n26 c26 y13.2.1, kS0 A27 n27 c27 y13.2.2.1]),
 aX6 (fun (A32 : Option Addr) (n32 c32 : Nat) (A33 : Option Addr) (n33 c33 : Nat) => .agg #[.slice A32 n32 c32, .slice A33 n33 c33]) (fun A32 n32 c32 A33 n33 c33 => [kS1 A32 n32 c32 y13.1.Young, kS1 A33 n33 c33 y13.1.Old]),
 aX3 (fun (A36 : Option Addr) (n36 c36 : Nat) => .slice A36 n36 c36) (fun A36 n36 c36 => [kS0 A36 n36 c36 y13.2.1]),
 aX3 (fun (A38 : Option Addr) (n38 c38 : Nat) => .slice A38 n38 c38) (fun A38 n38 c38 => [kS0 A38 n38 c38 y13.2.2.1]),
 aV (iV y13.2.2.2),
 aX1 (fun (B41 : Nat) => pV B41 0) (fun B41 => [boxC B41 24 [.slice none 0 0, .slice none 0 0]])] [] (cv_refl _) (qB_cons rfl (qB_cons rfl (qB_cons rfl qB_nil))) (by kernel_rfl) rfl rfl ?_ ?_ ?_
 ·refine qs_cons rfl ?_ ?_
  ·intro A24 n24 c24 A25 n25 c25 A26 n26 c26 A27 n27 c27
   exact QS_ev (ev_extract rfl rfl) rfl (cvp3 A26 n26 c26 ((cv_dup 2 rfl rfl).trans (cv_refl _)))
  refine qs_cons rfl ?_ ?_
  ·intro A24 n24 c24 A25 n25 c25 A26 n26 c26 A27 n27 c27
   exact QS_ev (ev_extract rfl rfl) rfl (cvp3 A27 n27 c27 ((cv_dup 3 rfl rfl).trans (cv_refl _)))
  refine qs_cons rfl ?_ ?_
  ·intro A24 n24 c24 A25 n25 c25 A26 n26 c26 A27 n27 c27
   exact QS_ev (ev_extract rfl rfl) rfl (cvpV rfl (cv_refl _))
  exact qs_nil
 ·refine steps_cons rfl ?_ ?_
  ·refine X_op (op_alloc zero24 rfl) rfl ?_
   rintro _ _ ⟨B40, rfl, rfl⟩
   exact cvp1 B40 (cv_refl _)
  refine steps_cons rfl ?_ ?_
  ·intro A24 n24 c24 A25 n25 c25 A26 n26 c26 A27 n27 c27
   exact X_ev (ev_extract rfl rfl) rfl (cvpV rfl (cv_refl _))
  refine steps_cons rfl ?_ ?_
  ·intro A24 n24 c24 A25 n25 c25 A26 n26 c26 A27 n27 c27
   exact X_ev (ev_extract rfl rfl) rfl (cvp3 A27 n27 c27 ((cv_dup 3 rfl rfl).trans (cv_refl _)))
  refine steps_cons rfl ?_ ?_
  ·intro A24 n24 c24 A25 n25 c25 A26 n26 c26 A27 n27 c27
   exact X_ev (ev_extract rfl rfl) rfl (cvp3 A26 n26 c26 ((cv_dup 2 rfl rfl).trans (cv_refl _)))
  refine steps_cons rfl ?_ ?_
  ·intro A24 n24 c24 A25 n25 c25 A26 n26 c26 A27 n27 c27
   exact X_ev (ev_extract rfl rfl) rfl (cvp6 A24 n24 c24 A25 n25 c25 ((cv_dup 0 rfl rfl).trans ((cv_dup 2 rfl rfl).trans (cv_sel [1, 0, 2, 3, 4, 5, 6, 7, 8, 9] 10 rfl rfl))))
  refine steps_cons rfl ?_ ?_
  ·intro A20 n20 c20 A21 n21 c21 A22 n22 c22 A23 n23 c23
   exact X_ev (ev_move rfl) rfl (cvp12 A20 n20 c20 A21 n21 c21 A22 n22 c22 A23 n23 c23 ((cv_dup 0 rfl rfl).trans ((cv_dup 2 rfl rfl).trans ((cv_dup 4 rfl rfl).trans ((cv_dup 6 rfl rfl).trans (cv_sel [3, 2, 1, 0, 4, 5, 6, 7, 8, 9, 10, 11] 12 rfl rfl))))))
  refine steps_cons rfl ?_ ?_
  ·intro A8 n8 c8 A12 n12 c12
   refine X_cv (cv_nilS rDCell _) ?_
   refine X_cv (cv_nilS (rInt .i64) _) ?_
   refine X_op (op_call (minor_Collect_ok hy13) call45 rfl (cv_take [2, 1, 3, 0] [] [0, 1, 2, 3, 4, 5, 6, 7] 8 rfl)) rfl ?_
   rintro _ _ ⟨_, ⟨A14, n14, c14, A15, n15, c15, A16, n16, c16, A17, n17, c17, rfl, rfl⟩, rfl⟩
   exact cvp12 A14 n14 c14 A15 n15 c15 A16 n16 c16 A17 n17 c17 ((cv_frz 0 rfl).trans ((cv_frz 1 rfl).trans ((cv_frz 2 rfl).trans ((cv_frz 3 rfl).trans (cv_sel [0, 1, 2, 3, 6, 7, 8, 9, 10, 11] 12 rfl rfl)))))
  refine steps_cons rfl ?_ ?_
  ·refine X_op (op_bslice (R := rDValue) (vss := [[iV y10.Kind, iV y10.N, .string y10.S]]) (xs := [y10]) rfl (bsl_25_1 _ _ _) rfl rfl (fun _ _ hr => .cons rfl All2.nil)) rfl ?_
   rintro _ _ ⟨A11, n11, c11, rfl, rfl⟩
   exact cvp3 A11 n11 c11 ((cv_frz 0 rfl).trans (cv_refl _))
  refine steps_cons rfl ?_ ?_
  ·refine X_op (op_callR (w20_object_ok hy10) call88 rfl (mem_nil) w20_object_free) rfl ?_
   rintro _ _ ⟨_, ⟨rfl, rfl⟩, rfl⟩
   exact cvpV rfl (cv_refl _)
  refine steps_cons rfl ?_ ?_
  ·intro A7 n7 c7
   exact X_ev (ev_build rfl (bld_24_0 _ _ _)) rfl (cvp3 A7 n7 c7 ((cv_dup 0 rfl rfl).trans (cv_refl _)))
  refine steps_cons rfl ?_ ?_
  ·refine X_op (op_bslice (R := rDCell) (vss := [[iV 1, iV 0, iV 0, iV 0, .slice A2 n2 c2, .slice none 0 0], [iV 1, iV 0, iV 0, iV 1, .slice A4 n4 c4, .slice none 0 0], [iV 1, iV 0, iV 0, iV 1, .slice A4 n4 c4, .slice none 0 0]]) (xs := [(⟨1, 0, 0, 0, ([(⟨1, 0, ⟨#[]⟩⟩ : DValue), y1] : List DValue), []⟩ : DCell), (⟨1, 0, 0, 1, ([(⟨1, 0, ⟨#[]⟩⟩ : DValue)] : List DValue), []⟩ : DCell), (⟨1, 0, 0, 1, ([(⟨1, 0, ⟨#[]⟩⟩ : DValue)] : List DValue), []⟩ : DCell)]) rfl (bsl_22_3 _ _ _ _ _ _ _ _ _ _ _ _ _ _ _ _ _ _ _ _ _ _ _ _ _ _ _ _ _ _) rfl rfl (fun _ _ hr => .cons (⟨_, _, _, _, _, _, rfl, hr 3 _ rfl rfl, slR_nil _ _ _⟩) (.cons (⟨_, _, _, _, _, _, rfl, hr 1 _ rfl rfl, slR_nil _ _ _⟩) (.cons (⟨_, _, _, _, _, _, rfl, hr 1 _ rfl rfl, slR_nil _ _ _⟩) All2.nil)))) rfl ?_
   rintro _ _ ⟨A6, n6, c6, rfl, rfl⟩
   exact cvp3 A6 n6 c6 ((cv_frz 0 rfl).trans (cv_refl _))
  refine steps_cons rfl ?_ ?_
  ·exact X_rd (rd_boxS (us := [iV 1, iV 0, iV 0, iV 1, .slice A4 n4 c4, .slice none 0 0]) 0 rfl rfl agg32 rfl) rfl (cvpV rfl (cv_refl _))
  refine steps_cons rfl ?_ ?_
  ·exact X_rd (rd_boxS (us := [iV 1, iV 0, iV 0, iV 1, .slice A4 n4 c4, .slice none 0 0]) 0 rfl rfl agg32 rfl) rfl (cvpV rfl (cv_refl _))
  refine steps_cons rfl ?_ ?_
  ·exact X_rd (rd_boxS (us := [iV 1, iV 0, iV 0, iV 0, .slice A2 n2 c2, .slice none 0 0]) 2 rfl rfl agg32 rfl) rfl (cvpV rfl (cv_refl _))
  exact steps_nil
 ·intro A32 n32 c32 A33 n33 c33 A36 n36 c36 A38 n38 c38 B41
  refine N_sub (t := [(23, .agg #[.slice A32 n32 c32, .slice A33 n33 c33]), (24, .slice A36 n36 c36), (25, .slice A38 n38 c38), (26, iV y13.2.2.2), (3, pV B41 0), (0, .bool false), (1, pV B3 0), (2, pV B5 0)]) (L' := [kS1 A32 n32 c32 y13.1.Young, kS1 A33 n33 c33 y13.1.Old, kS0 A36 n36 c36 y13.2.1, kS0 A38 n38 c38 y13.2.2.1, boxC B41 24 [.slice none 0 0, .slice none 0 0], boxC B5 32 [iV 1, iV 0, iV 0, iV 1, .slice A4 n4 c4, .slice none 0 0], kS0 A4 n4 c4 ([(⟨1, 0, ⟨#[]⟩⟩ : DValue)] : List DValue), boxC B3 32 [iV 1, iV 0, iV 0, iV 0, .slice A2 n2 c2, .slice none 0 0], kS0 A2 n2 c2 ([(⟨1, 0, ⟨#[]⟩⟩ : DValue), y1] : List DValue)]) ?_ subT (cv_refl _)
  refine N_opn 14 rfl (by kernel_rfl) (op_store (us := [.slice A32 n32 c32, .slice A33 n33 c33]) (cs' := [.slice A32 n32 c32, .slice A33 n33 c33]) 4 rfl rfl rfl rfl size24 rfl rfl rfl) rfl rfl ?_
  rintro _ _ rfl
  refine N_norm ([kS1 A32 n32 c32 y13.1.Young, kS1 A33 n33 c33 y13.1.Old, kS0 A36 n36 c36 y13.2.1, kS0 A38 n38 c38 y13.2.2.1, boxC B41 24 [.slice A32 n32 c32, .slice A33 n33 c33], boxC B5 32 [iV 1, iV 0, iV 0, iV 1, .slice A4 n4 c4, .slice none 0 0], kS0 A4 n4 c4 ([(⟨1, 0, ⟨#[]⟩⟩ : DValue)] : List DValue), boxC B3 32 [iV 1, iV 0, iV 0, iV 0, .slice A2 n2 c2, .slice none 0 0], kS0 A2 n2 c2 ([(⟨1, 0, ⟨#[]⟩⟩ : DValue), y1] : List DValue)]) rfl ?_
  refine N_ev 15 rfl (by kernel_rfl) (ev_assign rfl) rfl rfl rfl ?_
  refine N_ev 16 rfl (by kernel_rfl) (ev_assign rfl) rfl rfl rfl ?_
  refine N_ev 17 rfl (by kernel_rfl) (ev_assign rfl) rfl rfl rfl ?_
  refine N_done (by kernel_rfl) ?_
  refine nx_n ?_
  refine G_seq ?_
  obtain ⟨b42, hb42, h⟩ := bind_elim h
  obtain ⟨c42, hc42⟩ : ∃ c, decide (y13.2.2.2 = 0) = c := ⟨_, rfl⟩
  obtain hs42 : c42 = true → ((decide ((y13.1.Young.length : Int) = 1)) = b42) := by
   cases c42
   ·exact fun e => by cases e
   ·replace hb42 := cond_t hc42 hb42
    exact fun _ => Option.some.inj hb42
  have ho42 : c42 = false → b42 = false := fun e => (Option.some.inj (cond_f (hc42.trans e) hb42)).symm
  obtain ⟨b43, hb43, h⟩ := bind_elim h
  obtain ⟨c43, hc43⟩ : ∃ c, b42 = c := ⟨_, rfl⟩
  obtain ⟨x44, hs43⟩ : ∃ (x44 : DCell), c43 = true → ((getE y13.1.Young 0) = some x44 ∧ (decide (x44.Age = 1)) = b43) := by
   cases c43
   ·exact ⟨default, fun e => by cases e⟩
   ·replace hb43 := cond_t hc43 hb43
    obtain ⟨x44, hx44, hb43⟩ := bind_elim hb43
    exact ⟨x44, fun _ => ⟨hx44, Option.some.inj hb43⟩⟩
  have ho43 : c43 = false → b43 = false := fun e => (Option.some.inj (cond_f (hc43.trans e) hb43)).symm
  obtain ⟨b45, hb45, h⟩ := bind_elim h
  obtain ⟨c45, hc45⟩ : ∃ c, b43 = c := ⟨_, rfl⟩
  obtain ⟨x46, x51, y54, hs45⟩ : ∃ (x46 : DCell) (x51 : DValue) (y54 : (DValue)), c45 = true → ((getE y13.1.Young 0) = some x46 ∧ (getE x46.Slots 1) = some x51 ∧ (w20_object_O N 2) = some y54 ∧ (decide (x51 = y54)) = b45) := by
   cases c45
   ·exact ⟨default, default, default, fun e => by cases e⟩
   ·replace hb45 := cond_t hc45 hb45
    obtain ⟨x46, hx46, hb45⟩ := bind_elim hb45
    obtain ⟨x51, hx51, hb45⟩ := bind_elim hb45
    obtain ⟨y54, hy54, hb45⟩ := bind_elim hb45
    exact ⟨x46, x51, y54, fun _ => ⟨hx46, hx51, hy54, Option.some.inj hb45⟩⟩
  have ho45 : c45 = false → b45 = false := fun e => (Option.some.inj (cond_f (hc45.trans e) hb45)).symm
  obtain ⟨b55, hb55, h⟩ := bind_elim h
  obtain ⟨c55, hc55⟩ : ∃ c, b45 = c := ⟨_, rfl⟩
  obtain hs55 : c55 = true → ((decide ((y13.1.Old.length : Int) = 1)) = b55) := by
   cases c55
   ·exact fun e => by cases e
   ·replace hb55 := cond_t hc55 hb55
    exact fun _ => Option.some.inj hb55
  have ho55 : c55 = false → b55 = false := fun e => (Option.some.inj (cond_f (hc55.trans e) hb55)).symm
  obtain ⟨b56, hb56, h⟩ := bind_elim h
  obtain ⟨c56, hc56⟩ : ∃ c, b55 = c := ⟨_, rfl⟩
  obtain hs56 : c56 = true → ((decide ((y13.2.1.length : Int) = 1)) = b56) := by
   cases c56
   ·exact fun e => by cases e
   ·replace hb56 := cond_t hc56 hb56
    exact fun _ => Option.some.inj hb56
  have ho56 : c56 = false → b56 = false := fun e => (Option.some.inj (cond_f (hc56.trans e) hb56)).symm
  obtain ⟨b57, hb57, h⟩ := bind_elim h
  obtain ⟨c57, hc57⟩ : ∃ c, b56 = c := ⟨_, rfl⟩
  obtain ⟨x58, y59, hs57⟩ : ∃ (x58 : DValue) (y59 : (DValue)), c57 = true → ((getE y13.2.1 0) = some x58 ∧ (w20_object_O N 1) = some y59 ∧ (decide (x58 = y59)) = b57) := by
   cases c57
   ·exact ⟨default, default, fun e => by cases e⟩
   ·replace hb57 := cond_t hc57 hb57
    obtain ⟨x58, hx58, hb57⟩ := bind_elim hb57
    obtain ⟨y59, hy59, hb57⟩ := bind_elim hb57
    exact ⟨x58, y59, fun _ => ⟨hx58, hy59, Option.some.inj hb57⟩⟩
  have ho57 : c57 = false → b57 = false := fun e => (Option.some.inj (cond_f (hc57.trans e) hb57)).symm
  obtain ⟨b60, hb60, h⟩ := bind_elim h
  obtain ⟨c60, hc60⟩ : ∃ c, b57 = c := ⟨_, rfl⟩
  obtain hs60 : c60 = true → ((decide ((y13.2.2.1.length : Int) = 0)) = b60) := by
   cases c60
   ·exact fun e => by cases e
   ·replace hb60 := cond_t hc60 hb60
    exact fun _ => Option.some.inj hb60
  have ho60 : c60 = false → b60 = false := fun e => (Option.some.inj (cond_f (hc60.trans e) hb60)).symm
  refine G_sub (t := [(0, .bool false), (3, pV B41 0), (4, .slice A36 n36 c36), (5, .slice A38 n38 c38), (6, iV y13.2.2.2)]) ?_ subT (cv_refl _)
  refine G_monoX (by kernel_rfl) 50 [] [49] [27, 28, 29, 30, 31, 32, 33, 34, 35, 36, 37, 38, 39, 40, 41, 42, 43, 44, 45, 46, 47, 48, 49, 50, 51, 52, 53, 54, 55, 56, 57, 58, 59, 60, 61, 62, 63, 64, 65, 66, 67, 68, 69, 70, 71, 72, 73, 74, 75, 76] [[], [0], [1], [2], [2, 3], [2, 4], [2, 5], [2, 6], [7], [8], [8, 9], [8, 10], [8, 11], [8, 12], [8, 13], [8, 14], [15], [16], [16, 17], [16, 18], [16, 19], [16, 20], [16, 21], [16, 22], [16], [16, 23, 24], [16, 25], [26], [27], [27, 28], [27, 29], [27, 30], [27, 31], [32], [33], [33, 34], [33, 35], [33, 36], [37], [38], [38, 39], [38, 40], [38], [38, 41, 42], [38, 43], [44], [45], [45, 46], [45, 47], [45, 48]] [aV (iV y13.2.2.2),
 aV (.bool (decide (y13.2.2.2 = 0))),
 aV (.bool (decide (y13.2.2.2 = 0))),
 (bif c42 then aV (pV B41 0) else aV undef),
 (bif c42 then aV (.slice A32 n32 c32) else aV undef),
 (bif c42 then aV (iV (y13.1.Young.length : Int)) else aV undef),
 (bif c42 then aV (.bool (decide ((y13.1.Young.length : Int) = 1))) else aV undef),
 aV (.bool b42),
 aV (.bool b42),
 (bif c43 then aV (pV B41 0) else aV undef),
 (bif c43 then aV (.slice A32 n32 c32) else aV undef),
 (bif c43 then aV (elemQ (.slice A32 n32 c32) ((0 : Int).toNat) 6 0) else aV undef),
 (bif c43 then aV (elemQ (.slice A32 n32 c32) ((0 : Int).toNat) 6 3) else aV undef),
 (bif c43 then aV (iV x44.Age) else aV undef),
 (bif c43 then aV (.bool (decide (x44.Age = 1))) else aV undef),
 aV (.bool b43),
 aV (.bool b43),
 (bif c45 then aV (pV B41 0) else aV undef),
 (bif c45 then aV (.slice A32 n32 c32) else aV undef),
 (bif c45 then aV (elemQ (.slice A32 n32 c32) ((0 : Int).toNat) 6 0) else aV undef),
 (bif c45 then aV (elemQ (.slice A32 n32 c32) ((0 : Int).toNat) 6 4) else aV undef),
 (bif c45 then aX3 (fun (A50 : Option Addr) (n50 c50 : Nat) => .slice A50 n50 c50) (fun A50 n50 c50 => [kS0 A50 n50 c50 x46.Slots]) else aV undef),
 (bif c45 then aX3 (fun (A52 : Option Addr) (n52 c52 : Nat) => elemQ (.slice A52 n52 c52) ((1 : Int).toNat) 3 0) (fun A52 n52 c52 => [kS0 A52 n52 c52 x46.Slots]) else aV undef),
 (bif c45 then aV (.agg #[iV x51.Kind, iV x51.N, .string x51.S]) else aV undef),
 (bif c45 then aV (.agg #[iV y54.Kind, iV y54.N, .string y54.S]) else aV undef),
 (bif c45 then aV (.bool (decide (x51 = y54))) else aV undef),
 aV (.bool b45),
 aV (.bool b45),
 (bif c55 then aV (pV B41 1) else aV undef),
 (bif c55 then aV (.slice A33 n33 c33) else aV undef),
 (bif c55 then aV (iV (y13.1.Old.length : Int)) else aV undef),
 (bif c55 then aV (.bool (decide ((y13.1.Old.length : Int) = 1))) else aV undef),
 aV (.bool b55),
 aV (.bool b55),
 (bif c56 then aV (.slice A36 n36 c36) else aV undef),
 (bif c56 then aV (iV (y13.2.1.length : Int)) else aV undef),
 (bif c56 then aV (.bool (decide ((y13.2.1.length : Int) = 1))) else aV undef),
 aV (.bool b56),
 aV (.bool b56),
 (bif c57 then aV (.slice A36 n36 c36) else aV undef),
 (bif c57 then aV (elemQ (.slice A36 n36 c36) ((0 : Int).toNat) 3 0) else aV undef),
 (bif c57 then aV (.agg #[iV x58.Kind, iV x58.N, .string x58.S]) else aV undef),
 (bif c57 then aV (.agg #[iV y59.Kind, iV y59.N, .string y59.S]) else aV undef),
 (bif c57 then aV (.bool (decide (x58 = y59))) else aV undef),
 aV (.bool b57),
 aV (.bool b57),
 (bif c60 then aV (.slice A38 n38 c38) else aV undef),
 (bif c60 then aV (iV (y13.2.2.1.length : Int)) else aV undef),
 (bif c60 then aV (.bool (decide ((y13.2.2.1.length : Int) = 0))) else aV undef),
 aV (.bool b60)] [] (cv_refl _) (qB_nil) (by kernel_rfl) rfl rfl ?_ ?_ ?_
  ·exact qs_nil
  ·refine steps_cons rfl ?_ ?_
   ·cases c60
    ·exact X_ev (ev_pick_f' hc60 rfl rfl) rfl (cvpV (by rw [ho60 rfl]) (cv_refl _))
    ·have hv60 := hs60 rfl
     exact X_ev (ev_pick_t' hc60 rfl rfl) rfl (cvpV (by rw [hv60]) (cv_refl _))
   refine steps_cons rfl ?_ ?_
   ·cases c60
    ·exact X_no (g_tf hc60 rfl) (cvpV rfl (cv_refl _))
    ·have hv60 := hs60 rfl
     exact X_ev (ev_eq rfl rfl) (g_tt hc60 rfl) (cvpV rfl (cv_refl _))
   refine steps_cons rfl ?_ ?_
   ·cases c60
    ·exact X_no (g_tf hc60 rfl) (cvpV rfl (cv_refl _))
    ·have hv60 := hs60 rfl
     exact X_rd (rd_len 3 rfl els_sl rfl Tryz.underlying25) (g_tt hc60 rfl) (cvpV rfl (cv_refl _))
   refine steps_cons rfl ?_ ?_
   ·cases c60
    ·exact X_no (g_tf hc60 rfl) (cvpV rfl (cv_refl _))
    ·have hv60 := hs60 rfl
     exact X_ev (ev_move rfl) (g_tt hc60 rfl) (cvpV rfl (cv_refl _))
   refine steps_cons rfl ?_ ?_
   ·exact X_ev (ev_move rfl) rfl (cvpV rfl (cv_refl _))
   refine steps_cons rfl ?_ ?_
   ·cases c57
    ·exact X_ev (ev_pick_f' hc57 rfl rfl) rfl (cvpV (by rw [ho57 rfl]) (cv_refl _))
    ·obtain ⟨hx58, hy59, hv57⟩ := hs57 rfl
     exact X_ev (ev_pick_t' hc57 rfl rfl) rfl (cvpV (by rw [hv57]) (cv_refl _))
   refine steps_cons rfl ?_ ?_
   ·cases c57
    ·exact X_no (g_tf hc57 rfl) (cvpV rfl (cv_refl _))
    ·obtain ⟨hx58, hy59, hv57⟩ := hs57 rfl
     exact X_ev (ev_seq38 (x := x58) (y := y59) rfl rfl) (g_tt hc57 rfl) (cvpV rfl (cv_refl _))
   refine steps_cons rfl ?_ ?_
   ·cases c57
    ·exact X_no (g_tf hc57 rfl) (cvpV rfl (cv_refl _))
    ·obtain ⟨hx58, hy59, hv57⟩ := hs57 rfl
     refine X_op (op_callR (w20_object_ok hy59) call88 rfl (mem_nil) w20_object_free) (g_tt hc57 rfl) ?_
     rintro _ _ ⟨_, ⟨rfl, rfl⟩, rfl⟩
     exact cvpV rfl (cv_refl _)
   refine steps_cons rfl ?_ ?_
   ·cases c57
    ·exact X_no (g_tf hc57 rfl) (cvpV rfl (cv_refl _))
    ·obtain ⟨hx58, hy59, hv57⟩ := hs57 rfl
     obtain ⟨lx58, ux58, hx58⟩ := getE_elim hx58
     exact X_rd (rd_elemS (us := [iV x58.Kind, iV x58.N, .string x58.S]) 2 rfl els_sl rfl hx58 agg38 (fun _ _ _ h => by rw [show _ = _ from h]; rfl)) (g_tt hc57 rfl) (cvpV rfl (cv_refl _))
   refine steps_cons rfl ?_ ?_
   ·cases c57
    ·exact X_no (g_tf hc57 rfl) (cvpV rfl (cv_refl _))
    ·obtain ⟨hx58, hy59, hv57⟩ := hs57 rfl
     obtain ⟨lx58, ux58, hx58⟩ := getE_elim hx58
     exact X_rd (rd_idx 2 rfl els_sl rfl rfl Tryz.underlying25 size38 lx58 ux58) (g_tt hc57 rfl) (cvpV rfl (cv_refl _))
   refine steps_cons rfl ?_ ?_
   ·cases c57
    ·exact X_no (g_tf hc57 rfl) (cvpV rfl (cv_refl _))
    ·obtain ⟨hx58, hy59, hv57⟩ := hs57 rfl
     exact X_ev (ev_move rfl) (g_tt hc57 rfl) (cvpV rfl (cv_refl _))
   refine steps_cons rfl ?_ ?_
   ·exact X_ev (ev_move rfl) rfl (cvpV rfl (cv_refl _))
   refine steps_cons rfl ?_ ?_
   ·cases c56
    ·exact X_ev (ev_pick_f' hc56 rfl rfl) rfl (cvpV (by rw [ho56 rfl]) (cv_refl _))
    ·have hv56 := hs56 rfl
     exact X_ev (ev_pick_t' hc56 rfl rfl) rfl (cvpV (by rw [hv56]) (cv_refl _))
   refine steps_cons rfl ?_ ?_
   ·cases c56
    ·exact X_no (g_tf hc56 rfl) (cvpV rfl (cv_refl _))
    ·have hv56 := hs56 rfl
     exact X_ev (ev_eq rfl rfl) (g_tt hc56 rfl) (cvpV rfl (cv_refl _))
   refine steps_cons rfl ?_ ?_
   ·cases c56
    ·exact X_no (g_tf hc56 rfl) (cvpV rfl (cv_refl _))
    ·have hv56 := hs56 rfl
     exact X_rd (rd_len 2 rfl els_sl rfl Tryz.underlying25) (g_tt hc56 rfl) (cvpV rfl (cv_refl _))
   refine steps_cons rfl ?_ ?_
   ·cases c56
    ·exact X_no (g_tf hc56 rfl) (cvpV rfl (cv_refl _))
    ·have hv56 := hs56 rfl
     exact X_ev (ev_move rfl) (g_tt hc56 rfl) (cvpV rfl (cv_refl _))
   refine steps_cons rfl ?_ ?_
   ·exact X_ev (ev_move rfl) rfl (cvpV rfl (cv_refl _))
   refine steps_cons rfl ?_ ?_
   ·cases c55
    ·exact X_ev (ev_pick_f' hc55 rfl rfl) rfl (cvpV (by rw [ho55 rfl]) (cv_refl _))
    ·have hv55 := hs55 rfl
     exact X_ev (ev_pick_t' hc55 rfl rfl) rfl (cvpV (by rw [hv55]) (cv_refl _))
   refine steps_cons rfl ?_ ?_
   ·cases c55
    ·exact X_no (g_tf hc55 rfl) (cvpV rfl (cv_refl _))
    ·have hv55 := hs55 rfl
     exact X_ev (ev_eq rfl rfl) (g_tt hc55 rfl) (cvpV rfl (cv_refl _))
   refine steps_cons rfl ?_ ?_
   ·cases c55
    ·exact X_no (g_tf hc55 rfl) (cvpV rfl (cv_refl _))
    ·have hv55 := hs55 rfl
     exact X_rd (rd_len 1 rfl els_sl rfl Tryz.underlying22) (g_tt hc55 rfl) (cvpV rfl (cv_refl _))
   refine steps_cons rfl ?_ ?_
   ·cases c55
    ·exact X_no (g_tf hc55 rfl) (cvpV rfl (cv_refl _))
    ·have hv55 := hs55 rfl
     exact X_rd (rd_box1 4 rfl rfl one22 rfl) (g_tt hc55 rfl) (cvpV rfl (cv_refl _))
   refine steps_cons rfl ?_ ?_
   ·cases c55
    ·exact X_no (g_tf hc55 rfl) (cvpV rfl (cv_refl _))
    ·have hv55 := hs55 rfl
     exact X_ev (ev_fa rfl fa_24_1) (g_tt hc55 rfl) (cvpV rfl (cv_refl _))
   refine steps_cons rfl ?_ ?_
   ·exact X_ev (ev_move rfl) rfl (cvpV rfl (cv_refl _))
   refine steps_cons rfl ?_ ?_
   ·cases c45
    ·exact X_ev (ev_pick_f' hc45 rfl rfl) rfl (cvpV (by rw [ho45 rfl]) (cv_refl _))
    ·obtain ⟨hx46, hx51, hy54, hv45⟩ := hs45 rfl
     exact X_ev (ev_pick_t' hc45 rfl rfl) rfl (cvpV (by rw [hv45]) (cv_refl _))
   refine steps_cons rfl ?_ ?_
   ·cases c45
    ·exact X_no (g_tf hc45 rfl) (cvpV rfl (cv_refl _))
    ·obtain ⟨hx46, hx51, hy54, hv45⟩ := hs45 rfl
     exact X_ev (ev_seq38 (x := x51) (y := y54) rfl rfl) (g_tt hc45 rfl) (cvpV rfl (cv_refl _))
   refine steps_cons rfl ?_ ?_
   ·cases c45
    ·exact X_no (g_tf hc45 rfl) (cvpV rfl (cv_refl _))
    ·obtain ⟨hx46, hx51, hy54, hv45⟩ := hs45 rfl
     refine X_op (op_callR (w20_object_ok hy54) call88 rfl (mem_nil) w20_object_free) (g_tt hc45 rfl) ?_
     rintro _ _ ⟨_, ⟨rfl, rfl⟩, rfl⟩
     exact cvpV rfl (cv_refl _)
   refine steps_cons rfl ?_ ?_
   ·cases c45
    ·exact X_no (g_tf hc45 rfl) (cvpV rfl (cv_refl _))
    ·obtain ⟨hx46, hx51, hy54, hv45⟩ := hs45 rfl
     obtain ⟨lx51, ux51, hx51⟩ := getE_elim hx51
     intro A52 n52 c52
     exact X_rd (rd_elemS (us := [iV x51.Kind, iV x51.N, .string x51.S]) 0 rfl els_sl rfl hx51 agg38 (fun _ _ _ h => by rw [show _ = _ from h]; rfl)) (g_tt hc45 rfl) (cvpV rfl (cv_refl _))
   refine steps_cons rfl ?_ ?_
   ·cases c45
    ·exact X_no (g_tf hc45 rfl) (cvpV rfl (cv_refl _))
    ·obtain ⟨hx46, hx51, hy54, hv45⟩ := hs45 rfl
     obtain ⟨lx51, ux51, hx51⟩ := getE_elim hx51
     intro A50 n50 c50
     exact X_rd (rd_idx 0 rfl els_sl rfl rfl Tryz.underlying25 size38 lx51 ux51) (g_tt hc45 rfl) (cvp3 A50 n50 c50 ((cv_dup 0 rfl rfl).trans (cv_refl _)))
   refine steps_cons rfl ?_ ?_
   ·cases c45
    ·exact X_no (g_tf hc45 rfl) (cvpV rfl (cv_refl _))
    ·obtain ⟨hx46, hx51, hy54, hv45⟩ := hs45 rfl
     obtain ⟨lx46, ux46, hx46⟩ := getE_elim hx46
     refine X_row 0 rfl hx46 (open_DCell x46) ?_
     rintro _ _ ⟨A47, n47, c47, A48, n48, c48, rfl, rfl⟩
     exact X_rd (rd_row1 0 rfl rfl one25 rfl) (g_tt hc45 rfl) (cvp3 A47 n47 c47 (cv_sel [1, 3, 4, 5, 6, 7, 8, 9, 10, 11] 12 rfl rfl))
   refine steps_cons rfl ?_ ?_
   ·cases c45
    ·exact X_no (g_tf hc45 rfl) (cvpV rfl (cv_refl _))
    ·obtain ⟨hx46, hx51, hy54, hv45⟩ := hs45 rfl
     obtain ⟨lx46, ux46, hx46⟩ := getE_elim hx46
     exact X_rd (rd_fa 0 rfl els_sl rfl (toNat_lt lx46 ux46) fa_32_4) (g_tt hc45 rfl) (cvpV rfl (cv_refl _))
   refine steps_cons rfl ?_ ?_
   ·cases c45
    ·exact X_no (g_tf hc45 rfl) (cvpV rfl (cv_refl _))
    ·obtain ⟨hx46, hx51, hy54, hv45⟩ := hs45 rfl
     obtain ⟨lx46, ux46, hx46⟩ := getE_elim hx46
     exact X_rd (rd_idx 0 rfl els_sl rfl rfl Tryz.underlying22 size32 lx46 ux46) (g_tt hc45 rfl) (cvpV rfl (cv_refl _))
   refine steps_cons rfl ?_ ?_
   ·cases c45
    ·exact X_no (g_tf hc45 rfl) (cvpV rfl (cv_refl _))
    ·obtain ⟨hx46, hx51, hy54, hv45⟩ := hs45 rfl
     exact X_rd (rd_box1 4 rfl rfl one22 rfl) (g_tt hc45 rfl) (cvpV rfl (cv_refl _))
   refine steps_cons rfl ?_ ?_
   ·cases c45
    ·exact X_no (g_tf hc45 rfl) (cvpV rfl (cv_refl _))
    ·obtain ⟨hx46, hx51, hy54, hv45⟩ := hs45 rfl
     exact X_ev (ev_fa0 rfl fa_24_0) (g_tt hc45 rfl) (cvpV rfl (cv_refl _))
   refine steps_cons rfl ?_ ?_
   ·exact X_ev (ev_move rfl) rfl (cvpV rfl (cv_refl _))
   refine steps_cons rfl ?_ ?_
   ·cases c43
    ·exact X_ev (ev_pick_f' hc43 rfl rfl) rfl (cvpV (by rw [ho43 rfl]) (cv_refl _))
    ·obtain ⟨hx44, hv43⟩ := hs43 rfl
     exact X_ev (ev_pick_t' hc43 rfl rfl) rfl (cvpV (by rw [hv43]) (cv_refl _))
   refine steps_cons rfl ?_ ?_
   ·cases c43
    ·exact X_no (g_tf hc43 rfl) (cvpV rfl (cv_refl _))
    ·obtain ⟨hx44, hv43⟩ := hs43 rfl
     exact X_ev (ev_eq rfl rfl) (g_tt hc43 rfl) (cvpV rfl (cv_refl _))
   refine steps_cons rfl ?_ ?_
   ·cases c43
    ·exact X_no (g_tf hc43 rfl) (cvpV rfl (cv_refl _))
    ·obtain ⟨hx44, hv43⟩ := hs43 rfl
     obtain ⟨lx44, ux44, hx44⟩ := getE_elim hx44
     exact X_rd (rd_elem1 (u := iV x44.Age) 0 rfl els_sl rfl hx44 one3 (fun _ _ _ h => by obtain ⟨_, _, _, _, _, _, e, _⟩ := h; rw [e]; rfl)) (g_tt hc43 rfl) (cvpV rfl (cv_refl _))
   refine steps_cons rfl ?_ ?_
   ·cases c43
    ·exact X_no (g_tf hc43 rfl) (cvpV rfl (cv_refl _))
    ·obtain ⟨hx44, hv43⟩ := hs43 rfl
     obtain ⟨lx44, ux44, hx44⟩ := getE_elim hx44
     exact X_rd (rd_fa 0 rfl els_sl rfl (toNat_lt lx44 ux44) fa_32_3) (g_tt hc43 rfl) (cvpV rfl (cv_refl _))
   refine steps_cons rfl ?_ ?_
   ·cases c43
    ·exact X_no (g_tf hc43 rfl) (cvpV rfl (cv_refl _))
    ·obtain ⟨hx44, hv43⟩ := hs43 rfl
     obtain ⟨lx44, ux44, hx44⟩ := getE_elim hx44
     exact X_rd (rd_idx 0 rfl els_sl rfl rfl Tryz.underlying22 size32 lx44 ux44) (g_tt hc43 rfl) (cvpV rfl (cv_refl _))
   refine steps_cons rfl ?_ ?_
   ·cases c43
    ·exact X_no (g_tf hc43 rfl) (cvpV rfl (cv_refl _))
    ·obtain ⟨hx44, hv43⟩ := hs43 rfl
     exact X_rd (rd_box1 4 rfl rfl one22 rfl) (g_tt hc43 rfl) (cvpV rfl (cv_refl _))
   refine steps_cons rfl ?_ ?_
   ·cases c43
    ·exact X_no (g_tf hc43 rfl) (cvpV rfl (cv_refl _))
    ·obtain ⟨hx44, hv43⟩ := hs43 rfl
     exact X_ev (ev_fa0 rfl fa_24_0) (g_tt hc43 rfl) (cvpV rfl (cv_refl _))
   refine steps_cons rfl ?_ ?_
   ·exact X_ev (ev_move rfl) rfl (cvpV rfl (cv_refl _))
   refine steps_cons rfl ?_ ?_
   ·cases c42
    ·exact X_ev (ev_pick_f' hc42 rfl rfl) rfl (cvpV (by rw [ho42 rfl]) (cv_refl _))
    ·have hv42 := hs42 rfl
     exact X_ev (ev_pick_t' hc42 rfl rfl) rfl (cvpV (by rw [hv42]) (cv_refl _))
   refine steps_cons rfl ?_ ?_
   ·cases c42
    ·exact X_no (g_tf hc42 rfl) (cvpV rfl (cv_refl _))
    ·have hv42 := hs42 rfl
     exact X_ev (ev_eq rfl rfl) (g_tt hc42 rfl) (cvpV rfl (cv_refl _))
   refine steps_cons rfl ?_ ?_
   ·cases c42
    ·exact X_no (g_tf hc42 rfl) (cvpV rfl (cv_refl _))
    ·have hv42 := hs42 rfl
     exact X_rd (rd_len 0 rfl els_sl rfl Tryz.underlying22) (g_tt hc42 rfl) (cvpV rfl (cv_refl _))
   refine steps_cons rfl ?_ ?_
   ·cases c42
    ·exact X_no (g_tf hc42 rfl) (cvpV rfl (cv_refl _))
    ·have hv42 := hs42 rfl
     exact X_rd (rd_box1 4 rfl rfl one22 rfl) (g_tt hc42 rfl) (cvpV rfl (cv_refl _))
   refine steps_cons rfl ?_ ?_
   ·cases c42
    ·exact X_no (g_tf hc42 rfl) (cvpV rfl (cv_refl _))
    ·have hv42 := hs42 rfl
     exact X_ev (ev_fa0 rfl fa_24_0) (g_tt hc42 rfl) (cvpV rfl (cv_refl _))
   refine steps_cons rfl ?_ ?_
   ·exact X_ev (ev_move rfl) rfl (cvpV rfl (cv_refl _))
   refine steps_cons rfl ?_ ?_
   ·exact X_ev (ev_eq rfl rfl) rfl (cvpV rfl (cv_refl _))
   refine steps_cons rfl ?_ ?_
   ·exact X_ev (ev_move rfl) rfl (cvpV rfl (cv_refl _))
   exact steps_nil
  ·refine N_sub (t := [(76, .bool b60), (0, .bool false), (3, pV B41 0), (4, .slice A36 n36 c36), (5, .slice A38 n38 c38), (6, iV y13.2.2.2)]) (L' := [kS1 A32 n32 c32 y13.1.Young, kS1 A33 n33 c33 y13.1.Old, kS0 A36 n36 c36 y13.2.1, kS0 A38 n38 c38 y13.2.2.1, boxC B41 24 [.slice A32 n32 c32, .slice A33 n33 c33], boxC B5 32 [iV 1, iV 0, iV 0, iV 1, .slice A4 n4 c4, .slice none 0 0], kS0 A4 n4 c4 ([(⟨1, 0, ⟨#[]⟩⟩ : DValue)] : List DValue), boxC B3 32 [iV 1, iV 0, iV 0, iV 0, .slice A2 n2 c2, .slice none 0 0], kS0 A2 n2 c2 ([(⟨1, 0, ⟨#[]⟩⟩ : DValue), y1] : List DValue)]) ?_ subT (cv_refl _)
   refine N_ev 50 rfl (by kernel_rfl) (ev_assign rfl) rfl rfl rfl ?_
   refine N_done (by kernel_rfl) ?_
   refine run ?_
   obtain rfl := Option.some.inj h
   exact endG1 rfl rfl (cv_sel [] 9 rfl rfl) ⟨rfl, rfl⟩
theorem w20_awake_free {r : Bool} : ∀ v post, ((fun (u : Value) (post : List Chunk) => u = .bool r ∧ post = [])) v post → ∀ c ∈ post, Free c := by
 rintro _ _ ⟨rfl, rfl⟩; exact mem_nil
def w20_few_j2 (N : Nat) (p3 : (List DCell)) : Option (List DCell) :=
 some p3
def w20_few_l4 (N : Nat) (a0 : (List DCell)) : Nat → (List DCell) → Int → Option (List DCell)
 | 0, _, _ => none
 | m4 + 1, p5, p6 => (bif decide (p6 < (a0.length : Int)) then (some (decide (p6 < 40))) else (some false)).bind fun b8 => bif b8 then ((getE a0 p6).bind fun x10 => req ((0 : Int) ≤ min (x10.Slots.length : Int) 20 ∧ 0 ≤ (min (x10.Slots.length : Int) 20).toNat ∧ (min (x10.Slots.length : Int) 20).toNat ≤ x10.Slots.length) (req ((0 : Int) ≤ min (x10.More.length : Int) 40 ∧ 0 ≤ (min (x10.More.length : Int) 40).toNat ∧ (min (x10.More.length : Int) 40).toNat ≤ x10.More.length) (req (fitsL (p5.length + ([(⟨x10.Kind, x10.Shape, x10.Flags, x10.Age, (x10.Slots.drop 0).take ((min (x10.Slots.length : Int) 20).toNat - 0), (x10.More.drop 0).take ((min (x10.More.length : Int) 40).toNat - 0)⟩ : DCell)] : List DCell).length)) (req (in64 (p6 + 1)) ((w20_few_l4 N a0 m4) (p5 ++ ([(⟨x10.Kind, x10.Shape, x10.Flags, x10.Age, (x10.Slots.drop 0).take ((min (x10.Slots.length : Int) 20).toNat - 0), (x10.More.drop 0).take ((min (x10.More.length : Int) 40).toNat - 0)⟩ : DCell)] : List DCell)) (p6 + 1)))))) else (w20_few_j2 N p5)
theorem w20_few_l4_s {N m4 : Nat} {a0 : (List DCell)} {p5 : (List DCell)} {p6 : Int} : w20_few_l4 N a0 (m4 + 1) p5 p6 = (bif decide (p6 < (a0.length : Int)) then (some (decide (p6 < 40))) else (some false)).bind fun b8 => bif b8 then ((getE a0 p6).bind fun x10 => req ((0 : Int) ≤ min (x10.Slots.length : Int) 20 ∧ 0 ≤ (min (x10.Slots.length : Int) 20).toNat ∧ (min (x10.Slots.length : Int) 20).toNat ≤ x10.Slots.length) (req ((0 : Int) ≤ min (x10.More.length : Int) 40 ∧ 0 ≤ (min (x10.More.length : Int) 40).toNat ∧ (min (x10.More.length : Int) 40).toNat ≤ x10.More.length) (req (fitsL (p5.length + ([(⟨x10.Kind, x10.Shape, x10.Flags, x10.Age, (x10.Slots.drop 0).take ((min (x10.Slots.length : Int) 20).toNat - 0), (x10.More.drop 0).take ((min (x10.More.length : Int) 40).toNat - 0)⟩ : DCell)] : List DCell).length)) (req (in64 (p6 + 1)) ((w20_few_l4 N a0 m4) (p5 ++ ([(⟨x10.Kind, x10.Shape, x10.Flags, x10.Age, (x10.Slots.drop 0).take ((min (x10.Slots.length : Int) 20).toNat - 0), (x10.More.drop 0).take ((min (x10.More.length : Int) 40).toNat - 0)⟩ : DCell)] : List DCell)) (p6 + 1)))))) else (w20_few_j2 N p5) := rfl
def w20_few_O (N : Nat) (a0 : (List DCell)) : Option (List DCell) :=
 w20_few_l4 N a0 N [] 0
theorem w20_few_ok {N : Nat} {a0 : (List DCell)} {r : (List DCell)} (h : w20_few_O N a0 = some r) {A1 : Option Addr} {n1 c1 : Nat} : Okc Tryz.prog 89 [.slice A1 n1 c1] ([kS1 A1 n1 c1 a0]) (fun (u : Value) (post : List Chunk) => ∃ A0 n0 c0, u = .slice A0 n0 c0 ∧ post = [kO4 A0 n0 c0 r]) := by
 refine ok_E Tryz.func89 rfl rfl ?_
 simp only [envOf]
 refine run ?_
 refine G_joinF (fun s L => ∃ (p3 : (List DCell)) (A3 : Option Addr) (n3 c3 : Nat), w20_few_j2 N p3 = some r ∧ s = [(2, .slice none 0 0), (3, .slice A3 n3 c3)] ∧ L = [kO4 A3 n3 c3 p3]) ?_ ?_
 ·refine run ?_
  refine G_loopF (fun m s L => ∃ (p5 : (List DCell)) (p6 : Int) (A5 : Option Addr) (n5 c5 : Nat), w20_few_l4 N a0 m p5 p6 = some r ∧ s = [(0, .slice A1 n1 c1), (2, .slice none 0 0), (3, .slice A5 n5 c5), (4, iV p6)] ∧ L = [kS1 A1 n1 c1 a0, kO4 A5 n5 c5 p5]) N _ _ ⟨[], 0, none, 0, 0, h, rfl, rfl⟩ sA ((cv_nil rDCell 32 _).trans (cv_sel [1, 0] 2 rfl rfl)) ?_
  rintro (_ | m4) _ _ ⟨p5, p6, A5, n5, c5, h, rfl, rfl⟩
  ·exact none_some h
  rw [w20_few_l4_s] at h
  refine G_seq ?_
  refine run ?_
  refine gR (rd_len 0 rfl els_sl rfl Tryz.underlying22) ?_
  refine run ?_
  obtain ⟨b8, hb8, h⟩ := bind_elim h
  refine G_segb 3 13 b8 ?_ ?_
  ·clear h
   refine G_case 10 rfl (fun g8 => ?_) (fun g8 => ?_)
   ·have h := cond_t g8 hb8
    refine run ?_
    obtain rfl := Option.some.inj h
    exact G_joined sA (cv_sel [0, 1] 2 rfl rfl)
   ·have h := cond_f g8 hb8
    refine run ?_
    obtain rfl := Option.some.inj h
    exact G_joined sA (cv_sel [0, 1] 2 rfl rfl)
  refine run ?_
  refine G_cond rfl (fun g9 => ?_) (fun g9 => ?_)
  ·replace h := cond_t g9 h
   refine run ?_
   refine G_seq ?_
   refine run ?_
   obtain ⟨x10, hx10, h⟩ := bind_elim h
   obtain ⟨lx10, ux10, hx10⟩ := getE_elim hx10
   refine gR (rd_idx 0 rfl els_sl rfl rfl Tryz.underlying22 size32 lx10 ux10) ?_
   refine G_row 0 rfl hx10 (open_DCell x10) ?_
   rintro _ _ ⟨A11, n11, c11, A12, n12, c12, rfl, rfl⟩
   refine gR (rd_rowS (us := [iV x10.Kind, iV x10.Shape, iV x10.Flags, iV x10.Age, .slice A11 n11 c11, .slice A12 n12 c12]) 0 rfl rfl agg32 rfl) ?_
   refine gD (op_alloc zero32 rfl) ?_
   rintro _ _ ⟨B14, rfl, rfl⟩
   refine gO (op_store (us := [iV x10.Kind, iV x10.Shape, iV x10.Flags, iV x10.Age, .slice A11 n11 c11, .slice A12 n12 c12]) (cs' := [iV x10.Kind, iV x10.Shape, iV x10.Flags, iV x10.Age, .slice A11 n11 c11, .slice A12 n12 c12]) 0 rfl rfl rfl rfl size32 rfl rfl rfl) ?_
   rintro _ _ rfl
   refine run ?_
   refine G_seq ?_
   obtain ⟨q15, h⟩ := req_elim h
   obtain ⟨q18, h⟩ := req_elim h
   refine G_sub (t := [(0, .slice A1 n1 c1), (2, .slice none 0 0), (3, .slice A5 n5 c5), (4, iV p6), (5, pV B14 0)]) ?_ subT (cv_refl _)
   refine G_monoX (by kernel_rfl) 14 [11, 12, 13] [6, 13] [20, 21, 22, 23, 24, 25, 26, 27, 28, 29, 30, 31, 32, 33] [[], [0], [], [2], [3], [4], [1, 5], [], [7], [], [9], [10], [11], [8, 12]] [aV (pV B14 4),
 aV (.slice A11 n11 c11),
 aV (pV B14 4),
 aV (.slice A11 n11 c11),
 aV (iV (x10.Slots.length : Int)),
 aV (iV (min (x10.Slots.length : Int) 20)),
 aX3 (fun (A17 : Option Addr) (n17 c17 : Nat) => .slice A17 n17 c17) (fun A17 n17 c17 => [kS0 A17 n17 c17 ((x10.Slots.drop 0).take ((min (x10.Slots.length : Int) 20).toNat - 0))]),
 aV (pV B14 5),
 aV (.slice A12 n12 c12),
 aV (pV B14 5),
 aV (.slice A12 n12 c12),
 aV (iV (x10.More.length : Int)),
 aV (iV (min (x10.More.length : Int) 40)),
 aX3 (fun (A20 : Option Addr) (n20 c20 : Nat) => .slice A20 n20 c20) (fun A20 n20 c20 => [kS0 A20 n20 c20 ((x10.More.drop 0).take ((min (x10.More.length : Int) 40).toNat - 0))])] [] (cv_refl _) (qB_cons rfl (qB_cons rfl (qB_cons rfl qB_nil))) (by kernel_rfl) rfl rfl ?_ ?_ ?_
   ·refine qs_cons rfl ?_ ?_
    ·exact QS_rd (qd_len 3 rfl els_sl rfl Tryz.underlying25) rfl (cvpV rfl (cv_refl _))
    refine qs_cons rfl ?_ ?_
    ·exact QS_ev (ev_min rfl rfl Tryz.underlying3 Tryz.underlying3) rfl (cvpV rfl (cv_refl _))
    refine qs_cons rfl ?_ ?_
    ·refine QS_cut 3 rfl (l := 0) (h := (min (x10.More.length : Int) 40).toNat) q18.2.1 q18.2.2 ?_
     rintro A19 n19 c19 e19
     exact QS_rd (qd_cut 4 rfl e19 rfl Tryz.underlying25 size38 rfl rfl (by rw [Int.toNat_of_nonneg q18.1]; rfl) q18.2.1 q18.2.2) rfl (cvp3 A19 n19 c19 (cv_refl _))
    exact qs_nil
   ·refine steps_cons rfl ?_ ?_
    ·refine X_cut 3 rfl (l := 0) (h := (min (x10.More.length : Int) 40).toNat) q18.2.1 q18.2.2 ?_
     rintro A19 n19 c19 e19
     exact X_rd (rd_cut 4 rfl e19 rfl Tryz.underlying25 size38 rfl rfl (by rw [Int.toNat_of_nonneg q18.1]; rfl) q18.2.1 q18.2.2) rfl (cvp3 A19 n19 c19 (cv_refl _))
    refine steps_cons rfl ?_ ?_
    ·exact X_ev (ev_min rfl rfl Tryz.underlying3 Tryz.underlying3) rfl (cvpV rfl (cv_refl _))
    refine steps_cons rfl ?_ ?_
    ·exact X_rd (rd_len 3 rfl els_sl rfl Tryz.underlying25) rfl (cvpV rfl (cv_refl _))
    refine steps_cons rfl ?_ ?_
    ·exact X_rd (rd_box1 0 rfl rfl one25 rfl) rfl (cvpV rfl (cv_refl _))
    refine steps_cons rfl ?_ ?_
    ·exact X_ev (ev_fa rfl fa_32_5) rfl (cvpV rfl (cv_refl _))
    refine steps_cons rfl ?_ ?_
    ·exact X_rd (rd_box1 0 rfl rfl one25 rfl) rfl (cvpV rfl (cv_refl _))
    refine steps_cons rfl ?_ ?_
    ·exact X_ev (ev_fa rfl fa_32_5) rfl (cvpV rfl (cv_refl _))
    refine steps_cons rfl ?_ ?_
    ·refine X_cut 2 rfl (l := 0) (h := (min (x10.Slots.length : Int) 20).toNat) q15.2.1 q15.2.2 ?_
     rintro A16 n16 c16 e16
     exact X_rd (rd_cut 3 rfl e16 rfl Tryz.underlying25 size38 rfl rfl (by rw [Int.toNat_of_nonneg q15.1]; rfl) q15.2.1 q15.2.2) rfl (cvp3 A16 n16 c16 (cv_refl _))
    refine steps_cons rfl ?_ ?_
    ·exact X_ev (ev_min rfl rfl Tryz.underlying3 Tryz.underlying3) rfl (cvpV rfl (cv_refl _))
    refine steps_cons rfl ?_ ?_
    ·exact X_rd (rd_len 2 rfl els_sl rfl Tryz.underlying25) rfl (cvpV rfl (cv_refl _))
    refine steps_cons rfl ?_ ?_
    ·exact X_rd (rd_box1 0 rfl rfl one25 rfl) rfl (cvpV rfl (cv_refl _))
    refine steps_cons rfl ?_ ?_
    ·exact X_ev (ev_fa rfl fa_32_4) rfl (cvpV rfl (cv_refl _))
    refine steps_cons rfl ?_ ?_
    ·exact X_rd (rd_box1 0 rfl rfl one25 rfl) rfl (cvpV rfl (cv_refl _))
    refine steps_cons rfl ?_ ?_
    ·exact X_ev (ev_fa rfl fa_32_4) rfl (cvpV rfl (cv_refl _))
    exact steps_nil
   ·intro A17 n17 c17 A20 n20 c20
    refine N_sub (t := [(26, .slice A17 n17 c17), (33, .slice A20 n20 c20), (0, .slice A1 n1 c1), (2, .slice none 0 0), (3, .slice A5 n5 c5), (4, iV p6), (5, pV B14 0)]) (L' := [kS0 A17 n17 c17 ((x10.Slots.drop 0).take ((min (x10.Slots.length : Int) 20).toNat - 0)), kS0 A20 n20 c20 ((x10.More.drop 0).take ((min (x10.More.length : Int) 40).toNat - 0)), boxC B14 32 [iV x10.Kind, iV x10.Shape, iV x10.Flags, iV x10.Age, .slice A11 n11 c11, .slice A12 n12 c12], rowC (elemQ (.slice A1 n1 c1) p6.toNat 6 0) [iV x10.Kind, iV x10.Shape, iV x10.Flags, iV x10.Age, .slice A11 n11 c11, .slice A12 n12 c12], kS0 A11 n11 c11 x10.Slots, kS0 A12 n12 c12 x10.More, kS1 A1 n1 c1 a0, kO4 A5 n5 c5 p5]) ?_ subT (cv_refl _)
    refine N_ev 14 rfl (by kernel_rfl) (ev_fa rfl fa_32_4) rfl rfl rfl ?_
    refine N_opn 15 rfl (by kernel_rfl) (op_store (us := [.slice A17 n17 c17]) (cs' := [iV x10.Kind, iV x10.Shape, iV x10.Flags, iV x10.Age, .slice A17 n17 c17, .slice A12 n12 c12]) 2 rfl rfl rfl rfl size25 rfl rfl rfl) rfl rfl ?_
    rintro _ _ rfl
    refine N_ev 16 rfl (by kernel_rfl) (ev_fa rfl fa_32_5) rfl rfl rfl ?_
    refine N_opn 17 rfl (by kernel_rfl) (op_store (us := [.slice A20 n20 c20]) (cs' := [iV x10.Kind, iV x10.Shape, iV x10.Flags, iV x10.Age, .slice A17 n17 c17, .slice A20 n20 c20]) 2 rfl rfl rfl rfl size25 rfl rfl rfl) rfl rfl ?_
    rintro _ _ rfl
    refine N_norm ([kS0 A17 n17 c17 ((x10.Slots.drop 0).take ((min (x10.Slots.length : Int) 20).toNat - 0)), kS0 A20 n20 c20 ((x10.More.drop 0).take ((min (x10.More.length : Int) 40).toNat - 0)), boxC B14 32 [iV x10.Kind, iV x10.Shape, iV x10.Flags, iV x10.Age, .slice A17 n17 c17, .slice A20 n20 c20], rowC (elemQ (.slice A1 n1 c1) p6.toNat 6 0) [iV x10.Kind, iV x10.Shape, iV x10.Flags, iV x10.Age, .slice A11 n11 c11, .slice A12 n12 c12], kS0 A11 n11 c11 x10.Slots, kS0 A12 n12 c12 x10.More, kS1 A1 n1 c1 a0, kO4 A5 n5 c5 p5]) rfl ?_
    refine N_done (by kernel_rfl) ?_
    refine run ?_
    refine gR (rd_boxS (us := [iV x10.Kind, iV x10.Shape, iV x10.Flags, iV x10.Age, .slice A17 n17 c17, .slice A20 n20 c20]) 2 rfl rfl agg32 rfl) ?_
    refine gD (op_bslice (R := rDCell) (vss := [[iV x10.Kind, iV x10.Shape, iV x10.Flags, iV x10.Age, .slice A17 n17 c17, .slice A20 n20 c20]]) (xs := [(⟨x10.Kind, x10.Shape, x10.Flags, x10.Age, (x10.Slots.drop 0).take ((min (x10.Slots.length : Int) 20).toNat - 0), (x10.More.drop 0).take ((min (x10.More.length : Int) 40).toNat - 0)⟩ : DCell)]) rfl (bsl_22_1 _ _ _ _ _ _ _ _ _ _) rfl rfl (fun _ _ hr => .cons (⟨_, _, _, _, _, _, rfl, hr 0 _ rfl rfl, hr 1 _ rfl rfl⟩) All2.nil)) ?_
    rintro _ _ ⟨A21, n21, c21, rfl, rfl⟩
    obtain ⟨q22, h⟩ := req_elim h
    refine gD (op_append 8 0 rfl rfl els_own rfl rfl Tryz.underlying22 zb32 rfl rfl q22) ?_
    rintro _ _ ⟨A23, n23, c23, rfl, rfl⟩
    refine run ?_
    obtain ⟨q24, h⟩ := req_elim h
    refine gE (ev_add rfl rfl q24.1 q24.2) ?_
    refine run ?_
    exact ⟨m4, _, _, Nat.lt_succ_self _, ⟨p5 ++ ([(⟨x10.Kind, x10.Shape, x10.Flags, x10.Age, (x10.Slots.drop 0).take ((min (x10.Slots.length : Int) 20).toNat - 0), (x10.More.drop 0).take ((min (x10.More.length : Int) 40).toNat - 0)⟩ : DCell)] : List DCell), p6 + 1, A23, n23, c23, h, rfl, rfl⟩, sA, cv_sel [7, 8] 9 rfl rfl⟩
  ·replace h := cond_f g9 h
   refine run ?_
   exact ⟨_, _, ⟨p5, A5, n5, c5, h, rfl, rfl⟩, sA, cv_sel [1] 2 rfl rfl⟩
 ·rintro _ _ ⟨p3, A3, n3, c3, h, rfl, rfl⟩
  refine run ?_
  obtain rfl := Option.some.inj h
  exact endG1 rfl rfl (cv_sel [0] 1 rfl rfl) ⟨_, _, _, rfl, rfl⟩
def w20_Few_O (N : Nat) (a0 : DMemory) : Option DMemory :=
 (w20_few_O N a0.Young).bind fun y5 => (w20_few_O N a0.Old).bind fun y7 => some (⟨y5, y7⟩ : DMemory)
theorem w20_Few_ok {N : Nat} {a0 : DMemory} {r : DMemory} (h : w20_Few_O N a0 = some r) {A1 : Option Addr} {n1 c1 : Nat} {A2 : Option Addr} {n2 c2 : Nat} : Okc Tryz.prog 37 [.agg #[.slice A1 n1 c1, .slice A2 n2 c2]] ([kS1 A1 n1 c1 a0.Young, kS1 A2 n2 c2 a0.Old]) (fun (u : Value) (post : List Chunk) => ∃ A0 n0 c0 A1 n1 c1, u = .agg #[.slice A0 n0 c0, .slice A1 n1 c1] ∧ post = [kO4 A0 n0 c0 r.Young, kO4 A1 n1 c1 r.Old]) := by
 refine ok_E Tryz.func37 rfl rfl ?_
 simp only [envOf]
 refine run ?_
 refine gD (op_box rfl rfl) ?_
 rintro _ _ ⟨B3, rfl, rfl⟩
 refine gD (op_alloc zero24 rfl) ?_
 rintro _ _ ⟨B4, rfl, rfl⟩
 refine run ?_
 refine G_seq ?_
 refine G_drawn (by kernel_rfl) ([boxC B3 24 [.slice A1 n1 c1, .slice A2 n2 c2], kS1 A1 n1 c1 a0.Young, kS1 A2 n2 c2 a0.Old]) (cv_sel [1, 2, 3] 4 rfl rfl) ?_
 refine T3_ev 0 rfl (by kernel_rfl) (ev_fa0 rfl fa_24_0) rfl rfl ?_
 refine T3_rd 1 rfl (by kernel_rfl) (rd_box1 0 rfl rfl one22 rfl) rfl rfl ?_
 refine T3_ev 3 rfl (by kernel_rfl) (ev_fa rfl fa_24_1) rfl rfl ?_
 refine T3_rd 4 rfl (by kernel_rfl) (rd_box1 0 rfl rfl one22 rfl) rfl rfl ?_
 obtain ⟨y5, hy5, h⟩ := bind_elim h
 refine T3_opd 2 rfl (by kernel_rfl) (op_call (w20_few_ok hy5) call89 rfl (cv_take [2] [] [0, 1, 2, 3] 4 rfl)) rfl rfl rfl ?_
 rintro _ _ ⟨_, ⟨A6, n6, c6, rfl, rfl⟩, rfl⟩
 refine ⟨[boxC B3 24 [.slice A1 n1 c1, .slice A2 n2 c2], kS1 A1 n1 c1 a0.Young, kS1 A2 n2 c2 a0.Old], cv_sel [2, 3, 4] 5 rfl rfl, cv_refl _, ?_⟩
 refine T3_norm ([kO4 A6 n6 c6 y5, boxC B4 24 [.slice none 0 0, .slice none 0 0], boxC B3 24 [.slice A1 n1 c1, .slice A2 n2 c2], kS1 A1 n1 c1 a0.Young, kS1 A2 n2 c2 a0.Old]) rfl ?_
 obtain ⟨y7, hy7, h⟩ := bind_elim h
 refine T3_opd 5 rfl (by kernel_rfl) (op_call (w20_few_ok hy7) call89 rfl (cv_take [4] [] [0, 1, 2, 3, 4] 5 rfl)) rfl rfl rfl ?_
 rintro _ _ ⟨_, ⟨A8, n8, c8, rfl, rfl⟩, rfl⟩
 refine ⟨[boxC B3 24 [.slice A1 n1 c1, .slice A2 n2 c2], kS1 A1 n1 c1 a0.Young, kS1 A2 n2 c2 a0.Old], cv_sel [3, 4, 5] 6 rfl rfl, cv_refl _, ?_⟩
 refine T3_norm ([kO4 A8 n8 c8 y7, kO4 A6 n6 c6 y5, boxC B4 24 [.slice none 0 0, .slice none 0 0], boxC B3 24 [.slice A1 n1 c1, .slice A2 n2 c2], kS1 A1 n1 c1 a0.Young, kS1 A2 n2 c2 a0.Old]) rfl ?_
 refine T3_ev 6 rfl (by kernel_rfl) (ev_build rfl (bld_24_0_1 _ _ _ _ _ _)) rfl rfl ?_
 refine T3_opn 7 rfl (by kernel_rfl) (op_store (us := [.slice A6 n6 c6, .slice A8 n8 c8]) (cs' := [.slice A6 n6 c6, .slice A8 n8 c8]) 2 rfl rfl rfl rfl size24 rfl rfl rfl) rfl rfl ?_
 rintro _ _ rfl
 refine ⟨[boxC B3 24 [.slice A1 n1 c1, .slice A2 n2 c2], kS1 A1 n1 c1 a0.Young, kS1 A2 n2 c2 a0.Old], cv_sel [3, 4, 5] 6 rfl rfl, cv_refl _, ?_⟩
 refine T3_norm ([kO4 A8 n8 c8 y7, kO4 A6 n6 c6 y5, boxC B4 24 [.slice A6 n6 c6, .slice A8 n8 c8], boxC B3 24 [.slice A1 n1 c1, .slice A2 n2 c2], kS1 A1 n1 c1 a0.Young, kS1 A2 n2 c2 a0.Old]) rfl ?_
 refine T3_done (by kernel_rfl) ?_
 refine run ?_
 obtain rfl := Option.some.inj h
 exact endGl (rs := [.cell 2 24]) (vs := [.agg #[.slice A6 n6 c6, .slice A8 n8 c8]]) rfl (.cons (rv_boxS 2 rfl rfl agg24) .nil) rfl (cv_sel [1, 0] 6 rfl rfl) ⟨_, _, _, _, _, _, rfl, rfl⟩
def r20_Roots_j2 (N : Nat) (p3 : (List Int)) : Option (List Int) :=
 some p3
def r20_Roots_j9 (N : Nat) (kb4 : (List Int) → Int → Option (List Int)) (p6 : Int) (a0 : (List DValue)) (p10 : (List Int)) : Option (List Int) :=
 req (in64 (p6 + 1)) (kb4 p10 (p6 + 1))
def r20_Roots_l4 (N : Nat) (a0 : (List DValue)) : Nat → (List Int) → Int → Option (List Int)
 | 0, _, _ => none
 | m4 + 1, p5, p6 => bif decide (p6 < (a0.length : Int)) then ((getE a0 p6).bind fun x11 => (bif decide (x11.Kind = 7) then (some true) else ((getE a0 p6).bind fun x13 => some (decide (x13.Kind = 9)))).bind fun b12 => bif b12 then ((getE a0 p6).bind fun x15 => req (fitsL (p5.length + ([x15.N] : List Int).length)) (r20_Roots_j9 N (r20_Roots_l4 N a0 m4) p6 a0 (p5 ++ ([x15.N] : List Int)))) else (r20_Roots_j9 N (r20_Roots_l4 N a0 m4) p6 a0 p5)) else (r20_Roots_j2 N p5)
theorem r20_Roots_l4_s {N m4 : Nat} {a0 : (List DValue)} {p5 : (List Int)} {p6 : Int} : r20_Roots_l4 N a0 (m4 + 1) p5 p6 = bif decide (p6 < (a0.length : Int)) then ((getE a0 p6).bind fun x11 => (bif decide (x11.Kind = 7) then (some true) else ((getE a0 p6).bind fun x13 => some (decide (x13.Kind = 9)))).bind fun b12 => bif b12 then ((getE a0 p6).bind fun x15 => req (fitsL (p5.length + ([x15.N] : List Int).length)) (r20_Roots_j9 N (r20_Roots_l4 N a0 m4) p6 a0 (p5 ++ ([x15.N] : List Int)))) else (r20_Roots_j9 N (r20_Roots_l4 N a0 m4) p6 a0 p5)) else (r20_Roots_j2 N p5) := rfl
def r20_Roots_O (N : Nat) (a0 : (List DValue)) : Option (List Int) :=
 r20_Roots_l4 N a0 N [] 0
theorem r20_Roots_ok {N : Nat} {a0 : (List DValue)} {r : (List Int)} (h : r20_Roots_O N a0 = some r) {A1 : Option Addr} {n1 c1 : Nat} : Okc Tryz.prog 91 [.slice A1 n1 c1] ([kS0 A1 n1 c1 a0]) (fun (u : Value) (post : List Chunk) => ∃ A0 n0 c0, u = .slice A0 n0 c0 ∧ post = [kO2 A0 n0 c0 r]) := by
 refine ok_E Tryz.func91 rfl rfl ?_
 simp only [envOf]
 refine run ?_
 refine G_joinF (fun s L => ∃ (p3 : (List Int)) (A3 : Option Addr) (n3 c3 : Nat), r20_Roots_j2 N p3 = some r ∧ s = [(2, .slice none 0 0), (3, .slice A3 n3 c3)] ∧ L = [kO2 A3 n3 c3 p3]) ?_ ?_
 ·refine run ?_
  refine G_loopF (fun m s L => ∃ (p5 : (List Int)) (p6 : Int) (A5 : Option Addr) (n5 c5 : Nat), r20_Roots_l4 N a0 m p5 p6 = some r ∧ s = [(0, .slice A1 n1 c1), (2, .slice none 0 0), (3, .slice A5 n5 c5), (4, iV p6)] ∧ L = [kS0 A1 n1 c1 a0, kO2 A5 n5 c5 p5]) N _ _ ⟨[], 0, none, 0, 0, h, rfl, rfl⟩ sA ((cv_nil (rInt .i64) 3 _).trans (cv_sel [1, 0] 2 rfl rfl)) ?_
  rintro (_ | m4) _ _ ⟨p5, p6, A5, n5, c5, h, rfl, rfl⟩
  ·exact none_some h
  rw [r20_Roots_l4_s] at h
  refine G_seq ?_
  refine run ?_
  refine gR (rd_len 0 rfl els_sl rfl Tryz.underlying25) ?_
  refine run ?_
  refine G_cond rfl (fun g8 => ?_) (fun g8 => ?_)
  ·replace h := cond_t g8 h
   refine run ?_
   refine G_joinF (fun s L => ∃ (p10 : (List Int)) (A10 : Option Addr) (n10 c10 : Nat), r20_Roots_j9 N (r20_Roots_l4 N a0 m4) p6 a0 p10 = some r ∧ s = [(0, .slice A1 n1 c1), (2, .slice none 0 0), (3, .slice A10 n10 c10), (4, iV p6)] ∧ L = [kS0 A1 n1 c1 a0, kO2 A10 n10 c10 p10]) ?_ ?_
   ·refine run ?_
    obtain ⟨x11, hx11, h⟩ := bind_elim h
    obtain ⟨lx11, ux11, hx11⟩ := getE_elim hx11
    refine gR (rd_idx 0 rfl els_sl rfl rfl Tryz.underlying25 size38 lx11 ux11) ?_
    refine gR (rd_fa0 0 rfl els_sl rfl (toNat_lt lx11 ux11) fa_38_0) ?_
    refine gR (rd_elem1 (u := iV x11.Kind) 0 rfl els_sl rfl hx11 one3 (fun _ _ _ h => by rw [show _ = _ from h]; rfl)) ?_
    refine run ?_
    obtain ⟨b12, hb12, h⟩ := bind_elim h
    refine G_segb 7 24 b12 ?_ ?_
    ·clear h
     refine G_case 17 rfl (fun g12 => ?_) (fun g12 => ?_)
     ·have h := cond_t g12 hb12
      refine run ?_
      obtain rfl := Option.some.inj h
      exact G_joined sA (cv_sel [0, 1] 2 rfl rfl)
     ·have h := cond_f g12 hb12
      refine run ?_
      obtain ⟨x13, hx13, h⟩ := bind_elim h
      obtain ⟨lx13, ux13, hx13⟩ := getE_elim hx13
      refine G_rd (rd_idx 0 rfl els_sl rfl rfl Tryz.underlying25 size38 lx13 ux13) rfl (g_ff g12 rfl) rfl ?_
      refine G_rd (rd_fa0 0 rfl els_sl rfl (toNat_lt lx13 ux13) fa_38_0) rfl (g_ff g12 rfl) rfl ?_
      refine G_rd (rd_elem1 (u := iV x13.Kind) 0 rfl els_sl rfl hx13 one3 (fun _ _ _ h => by rw [show _ = _ from h]; rfl)) rfl (g_ff g12 rfl) rfl ?_
      refine run ?_
      obtain rfl := Option.some.inj h
      exact G_joined sA (cv_sel [0, 1] 2 rfl rfl)
    refine run ?_
    refine G_cond rfl (fun g14 => ?_) (fun g14 => ?_)
    ·replace h := cond_t g14 h
     refine run ?_
     obtain ⟨x15, hx15, h⟩ := bind_elim h
     obtain ⟨lx15, ux15, hx15⟩ := getE_elim hx15
     refine gR (rd_idx 0 rfl els_sl rfl rfl Tryz.underlying25 size38 lx15 ux15) ?_
     refine gR (rd_fa 0 rfl els_sl rfl (toNat_lt lx15 ux15) fa_38_1) ?_
     refine gR (rd_elem1 (u := iV x15.N) 0 rfl els_sl rfl hx15 one3 (fun _ _ _ h => by rw [show _ = _ from h]; rfl)) ?_
     refine gD (op_bslice (R := (rInt .i64)) (vss := [[iV x15.N]]) (xs := [x15.N]) rfl (bsl_35_1 _) rfl rfl (fun _ _ hr => .cons rfl All2.nil)) ?_
     rintro _ _ ⟨A16, n16, c16, rfl, rfl⟩
     obtain ⟨q17, h⟩ := req_elim h
     refine gD (op_append 2 0 rfl rfl els_own rfl rfl Tryz.underlying35 zb3 rfl rfl q17) ?_
     rintro _ _ ⟨A18, n18, c18, rfl, rfl⟩
     refine run ?_
     exact ⟨_, _, ⟨p5 ++ ([x15.N] : List Int), A18, n18, c18, h, rfl, rfl⟩, sA, cv_sel [1, 2] 3 rfl rfl⟩
    ·replace h := cond_f g14 h
     refine run ?_
     exact ⟨_, _, ⟨p5, A5, n5, c5, h, rfl, rfl⟩, sA, cv_sel [0, 1] 2 rfl rfl⟩
   ·rintro _ _ ⟨p10, A10, n10, c10, h, rfl, rfl⟩
    refine run ?_
    obtain ⟨q19, h⟩ := req_elim h
    refine gE (ev_add rfl rfl q19.1 q19.2) ?_
    refine run ?_
    exact ⟨m4, _, _, Nat.lt_succ_self _, ⟨p10, p6 + 1, A10, n10, c10, h, rfl, rfl⟩, sA, cv_sel [0, 1] 2 rfl rfl⟩
  ·replace h := cond_f g8 h
   refine run ?_
   exact ⟨_, _, ⟨p5, A5, n5, c5, h, rfl, rfl⟩, sA, cv_sel [1] 2 rfl rfl⟩
 ·rintro _ _ ⟨p3, A3, n3, c3, h, rfl, rfl⟩
  refine run ?_
  obtain rfl := Option.some.inj h
  exact endG1 rfl rfl (cv_sel [0] 1 rfl rfl) ⟨_, _, _, rfl, rfl⟩
theorem r20_Roots_free {r : (List Int)} : ∀ v post, ((fun (u : Value) (post : List Chunk) => ∃ A0 n0 c0, u = .slice A0 n0 c0 ∧ post = [kO2 A0 n0 c0 r])) v post → ∀ c ∈ post, Free c := by
 rintro _ _ ⟨_, _, _, rfl, rfl⟩; exact mem_cons free_own (mem_nil)
def r20_Young_O (N : Nat) (a0 : Int) : Option Bool :=
 (bif decide (0 < a0) then (some (decide (a0.tmod 2 = 1))) else (some false)).bind fun b1 => some b1
theorem r20_Young_ok {N : Nat} {a0 : Int} {r : Bool} (h : r20_Young_O N a0 = some r) : Okc Tryz.prog 41 [iV a0] ([]) (fun (u : Value) (post : List Chunk) => u = .bool r ∧ post = []) := by
 refine ok_E Tryz.func41 rfl rfl ?_
 simp only [envOf]
 refine run ?_
 obtain ⟨b1, hb1, h⟩ := bind_elim h
 refine G_segb 4 9 b1 ?_ ?_
 ·clear h
  refine G_case 5 rfl (fun g1 => ?_) (fun g1 => ?_)
  ·have h := cond_t g1 hb1
   refine run ?_
   refine G_ev (ev_rem rfl rfl (by decide)) rfl (g_tt g1 rfl) rfl ?_
   refine run ?_
   obtain rfl := Option.some.inj h
   exact G_joined sA (cv_sel [] 0 rfl rfl)
  ·have h := cond_f g1 hb1
   refine run ?_
   obtain rfl := Option.some.inj h
   exact G_joined sA (cv_sel [] 0 rfl rfl)
 refine run ?_
 obtain rfl := Option.some.inj h
 exact endG1 rfl rfl (cv_sel [] 0 rfl rfl) ⟨rfl, rfl⟩
theorem r20_Young_free {r : Bool} : ∀ v post, ((fun (u : Value) (post : List Chunk) => u = .bool r ∧ post = [])) v post → ∀ c ∈ post, Free c := by
 rintro _ _ ⟨rfl, rfl⟩; exact mem_nil
def r20_Has_O (N : Nat) (a0 : DMemory) (a1 : Int) : Option Bool :=
 bif decide (a1 < 1) then (some false) else ((r20_Young_O N a1).bind fun y5 => bif y5 then (req (in64 (a1.tdiv 2)) (some (decide (a1.tdiv 2 < (a0.Young.length : Int))))) else (req (in64 (a1.tdiv 2)) (req (in64 ((a1.tdiv 2) - 1)) (some (decide ((a1.tdiv 2) - 1 < (a0.Old.length : Int)))))))
theorem r20_Has_ok {N : Nat} {a0 : DMemory} {a1 : Int} {r : Bool} (h : r20_Has_O N a0 a1 = some r) {A1 : Option Addr} {n1 c1 : Nat} {A2 : Option Addr} {n2 c2 : Nat} : Okc Tryz.prog 143 [.agg #[.slice A1 n1 c1, .slice A2 n2 c2], iV a1] ([kS1 A1 n1 c1 a0.Young, kS1 A2 n2 c2 a0.Old]) (fun (u : Value) (post : List Chunk) => u = .bool r ∧ post = []) := by
 refine ok_E Tryz.func143 rfl rfl ?_
 simp only [envOf]
 refine run ?_
 refine gD (op_box rfl rfl) ?_
 rintro _ _ ⟨B3, rfl, rfl⟩
 refine run ?_
 refine G_seq ?_
 refine run ?_
 refine G_cond rfl (fun g4 => ?_) (fun g4 => ?_)
 ·replace h := cond_t g4 h
  refine run ?_
  obtain rfl := Option.some.inj h
  exact endG1 rfl rfl (cv_sel [] 3 rfl rfl) ⟨rfl, rfl⟩
 ·replace h := cond_f g4 h
  refine run ?_
  refine G_seq ?_
  refine run ?_
  obtain ⟨y5, hy5, h⟩ := bind_elim h
  refine gD (op_callR (r20_Young_ok hy5) call41 rfl (mem_nil) r20_Young_free) ?_
  rintro _ _ ⟨_, ⟨rfl, rfl⟩, rfl⟩
  refine run ?_
  refine G_cond rfl (fun g6 => ?_) (fun g6 => ?_)
  ·replace h := cond_t g6 h
   refine run ?_
   obtain ⟨q7, h⟩ := req_elim h
   refine gE (ev_quo rfl rfl (by decide) q7.1 q7.2) ?_
   refine run ?_
   refine gR (rd_len 1 rfl els_sl rfl Tryz.underlying22) ?_
   refine run ?_
   obtain rfl := Option.some.inj h
   exact endG1 rfl rfl (cv_sel [] 3 rfl rfl) ⟨rfl, rfl⟩
  ·replace h := cond_f g6 h
   refine run ?_
   obtain ⟨q8, h⟩ := req_elim h
   refine gE (ev_quo rfl rfl (by decide) q8.1 q8.2) ?_
   obtain ⟨q9, h⟩ := req_elim h
   refine gE (ev_sub rfl rfl q9.1 q9.2) ?_
   refine run ?_
   refine gR (rd_len 2 rfl els_sl rfl Tryz.underlying22) ?_
   refine run ?_
   obtain rfl := Option.some.inj h
   exact endG1 rfl rfl (cv_sel [] 3 rfl rfl) ⟨rfl, rfl⟩
theorem r20_Has_free {r : Bool} : ∀ v post, ((fun (u : Value) (post : List Chunk) => u = .bool r ∧ post = [])) v post → ∀ c ∈ post, Free c := by
 rintro _ _ ⟨rfl, rfl⟩; exact mem_nil
def r20_every_j5 (N : Nat) : Option Bool :=
 some true
def r20_every_l6 (N : Nat) (a1 : (List Int)) (a0 : DMemory) : Nat → Int → Option Bool
 | 0, _ => none
 | m6 + 1, p7 => bif decide (p7 < (a1.length : Int)) then ((getE a1 p7).bind fun x9 => (r20_Has_O N a0 x9).bind fun y10 => bif !y10 then (some false) else (req (in64 (p7 + 1)) ((r20_every_l6 N a1 a0 m6) (p7 + 1)))) else (r20_every_j5 N)
theorem r20_every_l6_s {N m6 : Nat} {a1 : (List Int)} {a0 : DMemory} {p7 : Int} : r20_every_l6 N a1 a0 (m6 + 1) p7 = bif decide (p7 < (a1.length : Int)) then ((getE a1 p7).bind fun x9 => (r20_Has_O N a0 x9).bind fun y10 => bif !y10 then (some false) else (req (in64 (p7 + 1)) ((r20_every_l6 N a1 a0 m6) (p7 + 1)))) else (r20_every_j5 N) := rfl
def r20_every_O (N : Nat) (a0 : DMemory) (a1 : (List Int)) : Option Bool :=
 r20_every_l6 N a1 a0 N 0
theorem r20_every_ok {N : Nat} {a0 : DMemory} {a1 : (List Int)} {r : Bool} (h : r20_every_O N a0 a1 = some r) {A1 : Option Addr} {n1 c1 : Nat} {A2 : Option Addr} {n2 c2 : Nat} {A3 : Option Addr} {n3 c3 : Nat} : Okc Tryz.prog 90 [.agg #[.slice A1 n1 c1, .slice A2 n2 c2], .slice A3 n3 c3] ([kS1 A1 n1 c1 a0.Young, kS1 A2 n2 c2 a0.Old, kS5 A3 n3 c3 a1]) (fun (u : Value) (post : List Chunk) => u = .bool r ∧ post = []) := by
 refine ok_E Tryz.func90 rfl rfl ?_
 simp only [envOf]
 refine run ?_
 refine gD (op_box rfl rfl) ?_
 rintro _ _ ⟨B4, rfl, rfl⟩
 refine run ?_
 refine G_joinF (fun s L => r20_every_j5 N = some r ∧ s = [(4, .bool false)] ∧ L = []) ?_ ?_
 ·refine run ?_
  refine G_loopF (fun m s L => ∃ (p7 : Int), r20_every_l6 N a1 a0 m p7 = some r ∧ s = [(1, .slice A3 n3 c3), (2, pV B4 0), (4, .bool false), (5, iV p7)] ∧ L = [kS5 A3 n3 c3 a1, kS1 A1 n1 c1 a0.Young, kS1 A2 n2 c2 a0.Old, boxC B4 24 [.slice A1 n1 c1, .slice A2 n2 c2]]) N _ _ ⟨0, h, rfl, rfl⟩ sA (cv_sel [3, 1, 2, 0] 4 rfl rfl) ?_
  rintro (_ | m6) _ _ ⟨p7, h, rfl, rfl⟩
  ·exact none_some h
  rw [r20_every_l6_s] at h
  refine G_seq ?_
  refine run ?_
  refine gR (rd_len 0 rfl els_sl rfl Tryz.underlying35) ?_
  refine run ?_
  refine G_cond rfl (fun g8 => ?_) (fun g8 => ?_)
  ·replace h := cond_t g8 h
   refine run ?_
   refine G_seq ?_
   refine G_block ?_
   refine G_seq ?_
   refine G_drawn (by kernel_rfl) _ (cv_refl _) ?_
   refine T3_rd 0 rfl (by kernel_rfl) (rd_boxS (us := [.slice A1 n1 c1, .slice A2 n2 c2]) 3 rfl rfl agg24 rfl) rfl rfl ?_
   refine T3_ev 1 rfl (by kernel_rfl) (ev_move rfl) rfl rfl ?_
   refine T3_ev 2 rfl (by kernel_rfl) (ev_move rfl) rfl rfl ?_
   obtain ⟨x9, hx9, h⟩ := bind_elim h
   obtain ⟨lx9, ux9, hx9⟩ := getE_elim hx9
   refine T3_rd 3 rfl (by kernel_rfl) (rd_idx 0 rfl els_sl rfl rfl Tryz.underlying35 size3 lx9 ux9) rfl rfl ?_
   refine T3_rd 4 rfl (by kernel_rfl) (rd_elem1 (u := iV x9) 0 rfl els_sl rfl hx9 one3 (fun _ _ _ h => by rw [show _ = _ from h]; rfl)) rfl rfl ?_
   obtain ⟨y10, hy10, h⟩ := bind_elim h
   refine T3_opd 5 rfl (by kernel_rfl) (op_callR (r20_Has_ok hy10) call143 rfl (mem_cons (lent_ro (i := 1) rfl rfl) (mem_cons (lent_ro (i := 2) rfl rfl) mem_nil)) r20_Has_free) rfl rfl rfl ?_
   rintro _ _ ⟨_, ⟨rfl, rfl⟩, rfl⟩
   refine ⟨_, cv_refl _, cv_refl _, ?_⟩
   refine T3_ev 6 rfl (by kernel_rfl) (ev_not rfl) rfl rfl ?_
   refine T3_done (by kernel_rfl) ?_
   refine nx_n ?_
   refine G_cond rfl (fun g11 => ?_) (fun g11 => ?_)
   ·replace h := cond_t g11 h
    refine run ?_
    obtain rfl := Option.some.inj h
    exact endG1 rfl rfl (cv_sel [] 4 rfl rfl) ⟨rfl, rfl⟩
   ·replace h := cond_f g11 h
    refine run ?_
    obtain ⟨q12, h⟩ := req_elim h
    refine gE (ev_add rfl rfl q12.1 q12.2) ?_
    refine run ?_
    exact ⟨m6, _, _, Nat.lt_succ_self _, ⟨p7 + 1, h, rfl, rfl⟩, sA, cv_sel [0, 1, 2, 3] 4 rfl rfl⟩
  ·replace h := cond_f g8 h
   refine run ?_
   exact ⟨_, _, ⟨h, rfl, rfl⟩, sA, cv_sel [] 4 rfl rfl⟩
 ·rintro _ _ ⟨h, rfl, rfl⟩
  refine run ?_
  obtain rfl := Option.some.inj h
  exact endG1 rfl rfl (cv_sel [] 0 rfl rfl) ⟨rfl, rfl⟩
theorem r20_every_free {r : Bool} : ∀ v post, ((fun (u : Value) (post : List Chunk) => u = .bool r ∧ post = [])) v post → ∀ c ∈ post, Free c := by
 rintro _ _ ⟨rfl, rfl⟩; exact mem_nil
def r20_Fine_j9 (N : Nat) : Option Bool :=
 some true
def r20_Fine_j15 (N : Nat) (kb10 : Int → Option Bool) (p11 : Int) (a0 : DMemory) (p16 : Int) (p17 : Int) (p18 : Int) (p19 : Int) (p20 : (List DValue)) (p21 : (List DValue)) : Option Bool :=
 (r15_Right_O N (⟨p16, p17, p18, p19, p20, p21⟩ : DCell)).bind fun y32 => (bif !y32 then (some true) else ((r15_Leads_O N (⟨p16, p17, p18, p19, p20, p21⟩ : DCell)).bind fun y34 => (r20_every_O N a0 y34).bind fun y36 => some (!y36))).bind fun b33 => (bif b33 then (some true) else ((r15_Weakly_O N (⟨p16, p17, p18, p19, p20, p21⟩ : DCell)).bind fun y38 => (r20_every_O N a0 y38).bind fun y40 => some (!y40))).bind fun b37 => bif b37 then (some false) else (req (in64 (p11 + 1)) (kb10 (p11 + 1)))
def r20_Fine_l10 (N : Nat) (a0 : DMemory) : Nat → Int → Option Bool
 | 0, _ => none
 | m10 + 1, p11 => req (in64 ((a0.Young.length : Int) + (a0.Old.length : Int))) (bif decide (p11 < (a0.Young.length : Int) + (a0.Old.length : Int)) then (bif decide (p11 < (a0.Young.length : Int)) then ((getE a0.Young p11).bind fun x23 => r20_Fine_j15 N (r20_Fine_l10 N a0 m10) p11 a0 x23.Kind x23.Shape x23.Flags x23.Age x23.Slots x23.More) else (req (in64 (p11 - (a0.Young.length : Int))) ((getE a0.Old (p11 - (a0.Young.length : Int))).bind fun x28 => r20_Fine_j15 N (r20_Fine_l10 N a0 m10) p11 a0 x28.Kind x28.Shape x28.Flags x28.Age x28.Slots x28.More))) else (r20_Fine_j9 N))
theorem r20_Fine_l10_s {N m10 : Nat} {a0 : DMemory} {p11 : Int} : r20_Fine_l10 N a0 (m10 + 1) p11 = req (in64 ((a0.Young.length : Int) + (a0.Old.length : Int))) (bif decide (p11 < (a0.Young.length : Int) + (a0.Old.length : Int)) then (bif decide (p11 < (a0.Young.length : Int)) then ((getE a0.Young p11).bind fun x23 => r20_Fine_j15 N (r20_Fine_l10 N a0 m10) p11 a0 x23.Kind x23.Shape x23.Flags x23.Age x23.Slots x23.More) else (req (in64 (p11 - (a0.Young.length : Int))) ((getE a0.Old (p11 - (a0.Young.length : Int))).bind fun x28 => r20_Fine_j15 N (r20_Fine_l10 N a0 m10) p11 a0 x28.Kind x28.Shape x28.Flags x28.Age x28.Slots x28.More))) else (r20_Fine_j9 N)) := rfl
def r20_Fine_O (N : Nat) (a0 : DMemory) (a1 : (List DValue)) : Option Bool :=
 (r20_Roots_O N a1).bind fun y5 => (r20_every_O N a0 y5).bind fun y7 => bif !y7 then (some false) else (r20_Fine_l10 N a0 N 0)
theorem r20_Fine_ok {N : Nat} {a0 : DMemory} {a1 : (List DValue)} {r : Bool} (h : r20_Fine_O N a0 a1 = some r) {A1 : Option Addr} {n1 c1 : Nat} {A2 : Option Addr} {n2 c2 : Nat} {A3 : Option Addr} {n3 c3 : Nat} : Okc Tryz.prog 38 [.agg #[.slice A1 n1 c1, .slice A2 n2 c2], .slice A3 n3 c3] ([kS1 A1 n1 c1 a0.Young, kS1 A2 n2 c2 a0.Old, kS0 A3 n3 c3 a1]) (fun (u : Value) (post : List Chunk) => u = .bool r ∧ post = []) := by
 refine ok_E Tryz.func38 rfl rfl ?_
 simp only [envOf]
 refine run ?_
 refine gD (op_box rfl rfl) ?_
 rintro _ _ ⟨B4, rfl, rfl⟩
 refine run ?_
 refine G_seq ?_
 refine G_seq ?_
 refine G_drawn (by kernel_rfl) _ (cv_refl _) ?_
 refine T3_rd 0 rfl (by kernel_rfl) (rd_boxS (us := [.slice A1 n1 c1, .slice A2 n2 c2]) 0 rfl rfl agg24 rfl) rfl rfl ?_
 refine T3_ev 1 rfl (by kernel_rfl) (ev_move rfl) rfl rfl ?_
 obtain ⟨y5, hy5, h⟩ := bind_elim h
 refine T3_opd 2 rfl (by kernel_rfl) (op_callR (r20_Roots_ok hy5) call91 rfl (mem_cons (lent_ro (i := 3) rfl rfl) mem_nil) r20_Roots_free) rfl rfl rfl ?_
 rintro _ _ ⟨_, ⟨A6, n6, c6, rfl, rfl⟩, rfl⟩
 refine ⟨[boxC B4 24 [.slice A1 n1 c1, .slice A2 n2 c2], kS1 A1 n1 c1 a0.Young, kS1 A2 n2 c2 a0.Old, kS0 A3 n3 c3 a1], cv_sel [1, 2, 3, 4] 5 rfl rfl, cv_refl _, ?_⟩
 obtain ⟨y7, hy7, h⟩ := bind_elim h
 refine T3_opd 3 rfl (by kernel_rfl) (op_callR (r20_every_ok hy7) call90 rfl (mem_cons (lent_ro (i := 2) rfl rfl) (mem_cons (lent_ro (i := 3) rfl rfl) (mem_cons (lent_own (i := 0) rfl) mem_nil))) r20_every_free) rfl rfl rfl ?_
 rintro _ _ ⟨_, ⟨rfl, rfl⟩, rfl⟩
 refine ⟨[boxC B4 24 [.slice A1 n1 c1, .slice A2 n2 c2], kS1 A1 n1 c1 a0.Young, kS1 A2 n2 c2 a0.Old, kS0 A3 n3 c3 a1], cv_sel [1, 2, 3, 4] 5 rfl rfl, cv_refl _, ?_⟩
 refine T3_ev 4 rfl (by kernel_rfl) (ev_not rfl) rfl rfl ?_
 refine T3_done (by kernel_rfl) ?_
 refine nx_n ?_
 refine G_cond rfl (fun g8 => ?_) (fun g8 => ?_)
 ·replace h := cond_t g8 h
  refine run ?_
  obtain rfl := Option.some.inj h
  exact endG1 rfl rfl (cv_sel [] 5 rfl rfl) ⟨rfl, rfl⟩
 ·replace h := cond_f g8 h
  refine run ?_
  refine G_joinF (fun s L => r20_Fine_j9 N = some r ∧ s = [(4, .bool false)] ∧ L = []) ?_ ?_
  ·refine run ?_
   refine G_loopF (fun m s L => ∃ (p11 : Int), r20_Fine_l10 N a0 m p11 = some r ∧ s = [(2, pV B4 0), (4, .bool false), (5, iV p11)] ∧ L = [kS1 A1 n1 c1 a0.Young, kS1 A2 n2 c2 a0.Old, boxC B4 24 [.slice A1 n1 c1, .slice A2 n2 c2]]) N _ _ ⟨0, h, rfl, rfl⟩ sA (cv_sel [2, 3, 1] 5 rfl rfl) ?_
   rintro (_ | m10) _ _ ⟨p11, h, rfl, rfl⟩
   ·exact none_some h
   rw [r20_Fine_l10_s] at h
   refine G_seq ?_
   refine run ?_
   refine gR (rd_len 0 rfl els_sl rfl Tryz.underlying22) ?_
   refine run ?_
   refine gR (rd_len 1 rfl els_sl rfl Tryz.underlying22) ?_
   obtain ⟨q12, h⟩ := req_elim h
   refine gE (ev_add rfl rfl q12.1 q12.2) ?_
   refine run ?_
   refine G_cond rfl (fun g13 => ?_) (fun g13 => ?_)
   ·replace h := cond_t g13 h
    refine run ?_
    refine G_seq ?_
    refine run ?_
    refine gE (ev_build rfl (bld_32_)) ?_
    refine gD (op_alloc zero32 rfl) ?_
    rintro _ _ ⟨B14, rfl, rfl⟩
    refine gO (op_store (us := [iV 0, iV 0, iV 0, iV 0, .slice none 0 0, .slice none 0 0]) (cs' := [iV 0, iV 0, iV 0, iV 0, .slice none 0 0, .slice none 0 0]) 0 rfl rfl rfl rfl size32 rfl rfl rfl) ?_
    rintro _ _ rfl
    refine run ?_
    refine G_joinF (fun s L => ∃ (p16 : Int) (p17 : Int) (p18 : Int) (p19 : Int) (p20 : (List DValue)) (p21 : (List DValue)) (A20 : Option Addr) (n20 c20 : Nat) (A21 : Option Addr) (n21 c21 : Nat), r20_Fine_j15 N (r20_Fine_l10 N a0 m10) p11 a0 p16 p17 p18 p19 p20 p21 = some r ∧ s = [(2, pV B4 0), (4, .bool false), (5, iV p11), (6, pV B14 0)] ∧ L = [kS1 A1 n1 c1 a0.Young, kS1 A2 n2 c2 a0.Old, boxC B4 24 [.slice A1 n1 c1, .slice A2 n2 c2], kS0 A20 n20 c20 p20, kS0 A21 n21 c21 p21, boxC B14 32 [iV p16, iV p17, iV p18, iV p19, .slice A20 n20 c20, .slice A21 n21 c21]]) ?_ ?_
    ·refine run ?_
     refine gR (rd_len 1 rfl els_sl rfl Tryz.underlying22) ?_
     refine run ?_
     refine G_cond rfl (fun g22 => ?_) (fun g22 => ?_)
     ·replace h := cond_t g22 h
      refine run ?_
      obtain ⟨x23, hx23, h⟩ := bind_elim h
      obtain ⟨lx23, ux23, hx23⟩ := getE_elim hx23
      refine gR (rd_idx 1 rfl els_sl rfl rfl Tryz.underlying22 size32 lx23 ux23) ?_
      refine G_row 1 rfl hx23 (open_DCell x23) ?_
      rintro _ _ ⟨A24, n24, c24, A25, n25, c25, rfl, rfl⟩
      refine gR (rd_rowS (us := [iV x23.Kind, iV x23.Shape, iV x23.Flags, iV x23.Age, .slice A24 n24 c24, .slice A25 n25 c25]) 0 rfl rfl agg32 rfl) ?_
      refine gO (op_store (us := [iV x23.Kind, iV x23.Shape, iV x23.Flags, iV x23.Age, .slice A24 n24 c24, .slice A25 n25 c25]) (cs' := [iV x23.Kind, iV x23.Shape, iV x23.Flags, iV x23.Age, .slice A24 n24 c24, .slice A25 n25 c25]) 3 rfl rfl rfl rfl size32 rfl rfl rfl) ?_
      rintro _ _ rfl
      refine run ?_
      exact ⟨_, _, ⟨x23.Kind, x23.Shape, x23.Flags, x23.Age, x23.Slots, x23.More, A24, n24, c24, A25, n25, c25, h, rfl, rfl⟩, sA, cv_sel [4, 5, 6, 1, 2, 3] 7 rfl rfl⟩
     ·replace h := cond_f g22 h
      refine run ?_
      refine gR (rd_len 1 rfl els_sl rfl Tryz.underlying22) ?_
      obtain ⟨q27, h⟩ := req_elim h
      refine gE (ev_sub rfl rfl q27.1 q27.2) ?_
      obtain ⟨x28, hx28, h⟩ := bind_elim h
      obtain ⟨lx28, ux28, hx28⟩ := getE_elim hx28
      refine gR (rd_idx 2 rfl els_sl rfl rfl Tryz.underlying22 size32 lx28 ux28) ?_
      refine G_row 2 rfl hx28 (open_DCell x28) ?_
      rintro _ _ ⟨A29, n29, c29, A30, n30, c30, rfl, rfl⟩
      refine gR (rd_rowS (us := [iV x28.Kind, iV x28.Shape, iV x28.Flags, iV x28.Age, .slice A29 n29 c29, .slice A30 n30 c30]) 0 rfl rfl agg32 rfl) ?_
      refine gO (op_store (us := [iV x28.Kind, iV x28.Shape, iV x28.Flags, iV x28.Age, .slice A29 n29 c29, .slice A30 n30 c30]) (cs' := [iV x28.Kind, iV x28.Shape, iV x28.Flags, iV x28.Age, .slice A29 n29 c29, .slice A30 n30 c30]) 3 rfl rfl rfl rfl size32 rfl rfl rfl) ?_
      rintro _ _ rfl
      refine G_norm ([rowC (elemQ (.slice A2 n2 c2) ((p11 - (a0.Young.length : Int)).toNat) 6 0) [iV x28.Kind, iV x28.Shape, iV x28.Flags, iV x28.Age, .slice A29 n29 c29, .slice A30 n30 c30], kS0 A29 n29 c29 x28.Slots, kS0 A30 n30 c30 x28.More, boxC B14 32 [iV x28.Kind, iV x28.Shape, iV x28.Flags, iV x28.Age, .slice A29 n29 c29, .slice A30 n30 c30], kS1 A1 n1 c1 a0.Young, kS1 A2 n2 c2 a0.Old, boxC B4 24 [.slice A1 n1 c1, .slice A2 n2 c2]]) rfl ?_
      refine run ?_
      exact ⟨_, _, ⟨x28.Kind, x28.Shape, x28.Flags, x28.Age, x28.Slots, x28.More, A29, n29, c29, A30, n30, c30, h, rfl, rfl⟩, sA, cv_sel [4, 5, 6, 1, 2, 3] 7 rfl rfl⟩
    ·rintro _ _ ⟨p16, p17, p18, p19, p20, p21, A20, n20, c20, A21, n21, c21, h, rfl, rfl⟩
     refine G_seq ?_
     refine G_drawn (by kernel_rfl) _ (cv_refl _) ?_
     refine T3_rd 0 rfl (by kernel_rfl) (rd_boxS (us := [iV p16, iV p17, iV p18, iV p19, .slice A20 n20 c20, .slice A21 n21 c21]) 5 rfl rfl agg32 rfl) rfl rfl ?_
     obtain ⟨y32, hy32, h⟩ := bind_elim h
     refine T3_opd 1 rfl (by kernel_rfl) (op_callR (r15_Right_ok hy32) call92 rfl (mem_cons (lent_ro (i := 3) rfl rfl) (mem_cons (lent_ro (i := 4) rfl rfl) mem_nil)) r15_Right_free) rfl rfl rfl ?_
     rintro _ _ ⟨_, ⟨rfl, rfl⟩, rfl⟩
     refine ⟨_, cv_refl _, cv_refl _, ?_⟩
     refine T3_ev 2 rfl (by kernel_rfl) (ev_not rfl) rfl rfl ?_
     refine T3_ev 3 rfl (by kernel_rfl) (ev_move rfl) rfl rfl ?_
     obtain ⟨b33, hb33, h⟩ := bind_elim h
     refine T3_joinB (fun l => ((((((l.setIfInBounds 4 true).setIfInBounds 5 true).setIfInBounds 6 true).setIfInBounds 7 true).setIfInBounds 8 true).setIfInBounds 9 true)) 7 52 b33 (fun rest => ?_) ?_
     ·clear h
      refine T3_case 46 rfl (fun g33 => ?_) (fun g33 => ?_)
      ·have h := cond_t g33 hb33
       refine T3_no 4 rfl (by kernel_rfl) (g_ft g33 rfl) rfl ?_
       refine T3_no 5 rfl (by kernel_rfl) (g_ft g33 rfl) rfl ?_
       refine T3_no 6 rfl (by kernel_rfl) (g_ft g33 rfl) rfl ?_
       refine T3_no 7 rfl (by kernel_rfl) (g_ft g33 rfl) rfl ?_
       refine T3_no 8 rfl (by kernel_rfl) (g_ft g33 rfl) rfl ?_
       refine T3_ev 9 rfl (by kernel_rfl) (ev_pick_t' g33 rfl rfl) rfl rfl ?_
       obtain rfl := Option.some.inj h
       exact T3_sub rest (sub_cons rfl (sub_skip (sub_skip (sub_skip (sub_skip (sub_skip (sub_skip sub_refl rfl) rfl) rfl) rfl) rfl) rfl)) (cv_refl _) (cv_refl _)
      ·have h := cond_f g33 hb33
       refine T3_rd 4 rfl (by kernel_rfl) (rd_boxS (us := [.slice A1 n1 c1, .slice A2 n2 c2]) 2 rfl rfl agg24 rfl) (g_ff g33 rfl) rfl ?_
       refine T3_rd 5 rfl (by kernel_rfl) (rd_boxS (us := [iV p16, iV p17, iV p18, iV p19, .slice A20 n20 c20, .slice A21 n21 c21]) 5 rfl rfl agg32 rfl) (g_ff g33 rfl) rfl ?_
       obtain ⟨y34, hy34, h⟩ := bind_elim h
       refine T3_opd 6 rfl (by kernel_rfl) (op_callR (r15_Leads_ok hy34) call93 rfl (mem_cons (lent_ro (i := 3) rfl rfl) (mem_cons (lent_ro (i := 4) rfl rfl) mem_nil)) r15_Leads_free) rfl (g_ff g33 rfl) rfl ?_
       rintro _ _ ⟨_, ⟨A35, n35, c35, rfl, rfl⟩, rfl⟩
       refine ⟨[kS1 A1 n1 c1 a0.Young, kS1 A2 n2 c2 a0.Old, boxC B4 24 [.slice A1 n1 c1, .slice A2 n2 c2], kS0 A20 n20 c20 p20, kS0 A21 n21 c21 p21, boxC B14 32 [iV p16, iV p17, iV p18, iV p19, .slice A20 n20 c20, .slice A21 n21 c21]], cv_sel [1, 2, 3, 4, 5, 6] 7 rfl rfl, cv_refl _, ?_⟩
       obtain ⟨y36, hy36, h⟩ := bind_elim h
       refine T3_opd 7 rfl (by kernel_rfl) (op_callR (r20_every_ok hy36) call90 rfl (mem_cons (lent_ro (i := 1) rfl rfl) (mem_cons (lent_ro (i := 2) rfl rfl) (mem_cons (lent_own (i := 0) rfl) mem_nil))) r20_every_free) rfl (g_ff g33 rfl) rfl ?_
       rintro _ _ ⟨_, ⟨rfl, rfl⟩, rfl⟩
       refine ⟨[kS1 A1 n1 c1 a0.Young, kS1 A2 n2 c2 a0.Old, boxC B4 24 [.slice A1 n1 c1, .slice A2 n2 c2], kS0 A20 n20 c20 p20, kS0 A21 n21 c21 p21, boxC B14 32 [iV p16, iV p17, iV p18, iV p19, .slice A20 n20 c20, .slice A21 n21 c21]], cv_sel [1, 2, 3, 4, 5, 6] 7 rfl rfl, cv_refl _, ?_⟩
       refine T3_ev 8 rfl (by kernel_rfl) (ev_not rfl) (g_ff g33 rfl) rfl ?_
       refine T3_ev 9 rfl (by kernel_rfl) (ev_pick_f' g33 rfl rfl) rfl rfl ?_
       obtain rfl := Option.some.inj h
       exact T3_sub rest (sub_cons rfl (sub_skip (sub_skip (sub_skip (sub_skip (sub_skip (sub_skip sub_refl rfl) rfl) rfl) rfl) rfl) rfl)) (cv_sel [1, 2, 3, 4, 5, 6] 7 rfl rfl) (cv_refl _)
     refine T3_ev 10 rfl (by kernel_rfl) (ev_move rfl) rfl rfl ?_
     obtain ⟨b37, hb37, h⟩ := bind_elim h
     refine T3_joinB (fun l => ((((((l.setIfInBounds 11 true).setIfInBounds 12 true).setIfInBounds 13 true).setIfInBounds 14 true).setIfInBounds 15 true).setIfInBounds 16 true)) 0 59 b37 (fun rest => ?_) ?_
     ·clear h
      refine T3_case 53 rfl (fun g37 => ?_) (fun g37 => ?_)
      ·have h := cond_t g37 hb37
       refine T3_no 11 rfl (by kernel_rfl) (g_ft g37 rfl) rfl ?_
       refine T3_no 12 rfl (by kernel_rfl) (g_ft g37 rfl) rfl ?_
       refine T3_no 13 rfl (by kernel_rfl) (g_ft g37 rfl) rfl ?_
       refine T3_no 14 rfl (by kernel_rfl) (g_ft g37 rfl) rfl ?_
       refine T3_no 15 rfl (by kernel_rfl) (g_ft g37 rfl) rfl ?_
       refine T3_ev 16 rfl (by kernel_rfl) (ev_pick_t' g37 rfl rfl) rfl rfl ?_
       obtain rfl := Option.some.inj h
       exact T3_sub rest (sub_cons rfl (sub_skip (sub_skip (sub_skip (sub_skip (sub_skip (sub_skip sub_refl rfl) rfl) rfl) rfl) rfl) rfl)) (cv_refl _) (cv_refl _)
      ·have h := cond_f g37 hb37
       refine T3_rd 11 rfl (by kernel_rfl) (rd_boxS (us := [.slice A1 n1 c1, .slice A2 n2 c2]) 2 rfl rfl agg24 rfl) (g_ff g37 rfl) rfl ?_
       refine T3_rd 12 rfl (by kernel_rfl) (rd_boxS (us := [iV p16, iV p17, iV p18, iV p19, .slice A20 n20 c20, .slice A21 n21 c21]) 5 rfl rfl agg32 rfl) (g_ff g37 rfl) rfl ?_
       obtain ⟨y38, hy38, h⟩ := bind_elim h
       refine T3_opd 13 rfl (by kernel_rfl) (op_callR (r15_Weakly_ok hy38) call94 rfl (mem_cons (lent_ro (i := 3) rfl rfl) (mem_cons (lent_ro (i := 4) rfl rfl) mem_nil)) r15_Weakly_free) rfl (g_ff g37 rfl) rfl ?_
       rintro _ _ ⟨_, ⟨A39, n39, c39, rfl, rfl⟩, rfl⟩
       refine ⟨[kS1 A1 n1 c1 a0.Young, kS1 A2 n2 c2 a0.Old, boxC B4 24 [.slice A1 n1 c1, .slice A2 n2 c2], kS0 A20 n20 c20 p20, kS0 A21 n21 c21 p21, boxC B14 32 [iV p16, iV p17, iV p18, iV p19, .slice A20 n20 c20, .slice A21 n21 c21]], cv_sel [1, 2, 3, 4, 5, 6] 7 rfl rfl, cv_refl _, ?_⟩
       obtain ⟨y40, hy40, h⟩ := bind_elim h
       refine T3_opd 14 rfl (by kernel_rfl) (op_callR (r20_every_ok hy40) call90 rfl (mem_cons (lent_ro (i := 1) rfl rfl) (mem_cons (lent_ro (i := 2) rfl rfl) (mem_cons (lent_own (i := 0) rfl) mem_nil))) r20_every_free) rfl (g_ff g37 rfl) rfl ?_
       rintro _ _ ⟨_, ⟨rfl, rfl⟩, rfl⟩
       refine ⟨[kS1 A1 n1 c1 a0.Young, kS1 A2 n2 c2 a0.Old, boxC B4 24 [.slice A1 n1 c1, .slice A2 n2 c2], kS0 A20 n20 c20 p20, kS0 A21 n21 c21 p21, boxC B14 32 [iV p16, iV p17, iV p18, iV p19, .slice A20 n20 c20, .slice A21 n21 c21]], cv_sel [1, 2, 3, 4, 5, 6] 7 rfl rfl, cv_refl _, ?_⟩
       refine T3_ev 15 rfl (by kernel_rfl) (ev_not rfl) (g_ff g37 rfl) rfl ?_
       refine T3_ev 16 rfl (by kernel_rfl) (ev_pick_f' g37 rfl rfl) rfl rfl ?_
       obtain rfl := Option.some.inj h
       exact T3_sub rest (sub_cons rfl (sub_skip (sub_skip (sub_skip (sub_skip (sub_skip (sub_skip sub_refl rfl) rfl) rfl) rfl) rfl) rfl)) (cv_sel [1, 2, 3, 4, 5, 6] 7 rfl rfl) (cv_refl _)
     refine T3_done (by kernel_rfl) ?_
     refine nx_n ?_
     refine G_cond rfl (fun g41 => ?_) (fun g41 => ?_)
     ·replace h := cond_t g41 h
      refine run ?_
      obtain rfl := Option.some.inj h
      exact endG1 rfl rfl (cv_sel [] 6 rfl rfl) ⟨rfl, rfl⟩
     ·replace h := cond_f g41 h
      refine run ?_
      obtain ⟨q42, h⟩ := req_elim h
      refine gE (ev_add rfl rfl q42.1 q42.2) ?_
      refine run ?_
      exact ⟨m10, _, _, Nat.lt_succ_self _, ⟨p11 + 1, h, rfl, rfl⟩, sA, cv_sel [0, 1, 2] 6 rfl rfl⟩
   ·replace h := cond_f g13 h
    refine run ?_
    exact ⟨_, _, ⟨h, rfl, rfl⟩, sA, cv_sel [] 3 rfl rfl⟩
  ·rintro _ _ ⟨h, rfl, rfl⟩
   refine run ?_
   obtain rfl := Option.some.inj h
   exact endG1 rfl rfl (cv_sel [] 0 rfl rfl) ⟨rfl, rfl⟩
theorem r20_Fine_free {r : Bool} : ∀ v post, ((fun (u : Value) (post : List Chunk) => u = .bool r ∧ post = [])) v post → ∀ c ∈ post, Free c := by
 rintro _ _ ⟨rfl, rfl⟩; exact mem_nil
def w20_kept_j4 (N : Nat) (p5 : (List Int)) : Option (List Int) :=
 some p5
def w20_kept_j11 (N : Nat) (kb6 : (List Int) → Int → Option (List Int)) (p8 : Int) (a0 : DMemory) (p12 : (List Int)) : Option (List Int) :=
 req (in64 (p8 + 1)) (kb6 p12 (p8 + 1))
def w20_kept_j27 (N : Nat) (kb6 : (List Int) → Int → Option (List Int)) (p8 : Int) (p7 : (List Int)) (a0 : DMemory) (p28 : Bool) : Option (List Int) :=
 bif p28 then (req (in64 (2 * p8)) (req (in64 ((2 * p8) + 2)) (req (fitsL (p7.length + ([(2 * p8) + 2] : List Int).length)) (w20_kept_j11 N kb6 p8 a0 (p7 ++ ([(2 * p8) + 2] : List Int)))))) else (w20_kept_j11 N kb6 p8 a0 p7)
def w20_kept_l29 (N : Nat) (kb6 : (List Int) → Int → Option (List Int)) (p8 : Int) (p7 : (List Int)) (y21 : ((List Int))) (y23 : ((List Int))) (a0 : DMemory) : Nat → Bool → Int → Option (List Int)
 | 0, _, _ => none
 | m29 + 1, p30, p31 => bif decide (p31 < ((y21 ++ y23).length : Int)) then ((bif p30 then (some true) else ((getE (y21 ++ y23) p31).bind fun x34 => (r20_Young_O N x34).bind fun y35 => some y35)).bind fun b33 => req (in64 (p31 + 1)) ((w20_kept_l29 N kb6 p8 p7 y21 y23 a0 m29) b33 (p31 + 1))) else (w20_kept_j27 N kb6 p8 p7 a0 p30)
theorem w20_kept_l29_s {N m29 : Nat} {kb6 : (List Int) → Int → Option (List Int)} {p8 : Int} {p7 : (List Int)} {y21 : ((List Int))} {y23 : ((List Int))} {a0 : DMemory} {p30 : Bool} {p31 : Int} : w20_kept_l29 N kb6 p8 p7 y21 y23 a0 (m29 + 1) p30 p31 = bif decide (p31 < ((y21 ++ y23).length : Int)) then ((bif p30 then (some true) else ((getE (y21 ++ y23) p31).bind fun x34 => (r20_Young_O N x34).bind fun y35 => some y35)).bind fun b33 => req (in64 (p31 + 1)) ((w20_kept_l29 N kb6 p8 p7 y21 y23 a0 m29) b33 (p31 + 1))) else (w20_kept_j27 N kb6 p8 p7 a0 p30) := rfl
def w20_kept_l6 (N : Nat) (a0 : DMemory) : Nat → (List Int) → Int → Option (List Int)
 | 0, _, _ => none
 | m6 + 1, p7, p8 => bif decide (p8 < (a0.Old.length : Int)) then ((getE a0.Old p8).bind fun x13 => (getE a0.Old p8).bind fun x17 => (r15_Leads_O N x13).bind fun y21 => (r15_Weakly_O N x17).bind fun y23 => req (fitsL (y21.length + y23.length)) (w20_kept_l29 N (w20_kept_l6 N a0 m6) p8 p7 y21 y23 a0 N false 0)) else (w20_kept_j4 N p7)
theorem w20_kept_l6_s {N m6 : Nat} {a0 : DMemory} {p7 : (List Int)} {p8 : Int} : w20_kept_l6 N a0 (m6 + 1) p7 p8 = bif decide (p8 < (a0.Old.length : Int)) then ((getE a0.Old p8).bind fun x13 => (getE a0.Old p8).bind fun x17 => (r15_Leads_O N x13).bind fun y21 => (r15_Weakly_O N x17).bind fun y23 => req (fitsL (y21.length + y23.length)) (w20_kept_l29 N (w20_kept_l6 N a0 m6) p8 p7 y21 y23 a0 N false 0)) else (w20_kept_j4 N p7) := rfl
def w20_kept_O (N : Nat) (a0 : DMemory) : Option (List Int) :=
 w20_kept_l6 N a0 N [] 0
theorem w20_kept_ok {N : Nat} {a0 : DMemory} {r : (List Int)} (h : w20_kept_O N a0 = some r) {A1 : Option Addr} {n1 c1 : Nat} {A2 : Option Addr} {n2 c2 : Nat} : Okc Tryz.prog 40 [.agg #[.slice A1 n1 c1, .slice A2 n2 c2]] ([kS1 A1 n1 c1 a0.Young, kS1 A2 n2 c2 a0.Old]) (fun (u : Value) (post : List Chunk) => ∃ A0 n0 c0, u = .slice A0 n0 c0 ∧ post = [kO2 A0 n0 c0 r]) := by
 refine ok_E Tryz.func40 rfl rfl ?_
 simp only [envOf]
 refine run ?_
 refine gD (op_box rfl rfl) ?_
 rintro _ _ ⟨B3, rfl, rfl⟩
 refine run ?_
 refine G_joinF (fun s L => ∃ (p5 : (List Int)) (A5 : Option Addr) (n5 c5 : Nat), w20_kept_j4 N p5 = some r ∧ s = [(2, .slice none 0 0), (3, .slice A5 n5 c5)] ∧ L = [kO2 A5 n5 c5 p5]) ?_ ?_
 ·refine run ?_
  refine G_loopF (fun m s L => ∃ (p7 : (List Int)) (p8 : Int) (A7 : Option Addr) (n7 c7 : Nat), w20_kept_l6 N a0 m p7 p8 = some r ∧ s = [(1, pV B3 0), (2, .slice none 0 0), (3, .slice A7 n7 c7), (4, iV p8)] ∧ L = [kO2 A7 n7 c7 p7, kS1 A1 n1 c1 a0.Young, kS1 A2 n2 c2 a0.Old, boxC B3 24 [.slice A1 n1 c1, .slice A2 n2 c2]]) N _ _ ⟨[], 0, none, 0, 0, h, rfl, rfl⟩ sA ((cv_nil (rInt .i64) 3 _).trans (cv_sel [0, 2, 3, 1] 4 rfl rfl)) ?_
  rintro (_ | m6) _ _ ⟨p7, p8, A7, n7, c7, h, rfl, rfl⟩
  ·exact none_some h
  rw [w20_kept_l6_s] at h
  refine G_seq ?_
  refine run ?_
  refine gR (rd_len 2 rfl els_sl rfl Tryz.underlying22) ?_
  refine run ?_
  refine G_cond rfl (fun g10 => ?_) (fun g10 => ?_)
  ·replace h := cond_t g10 h
   refine run ?_
   refine G_joinF (fun s L => ∃ (p12 : (List Int)) (A12 : Option Addr) (n12 c12 : Nat), w20_kept_j11 N (w20_kept_l6 N a0 m6) p8 a0 p12 = some r ∧ s = [(1, pV B3 0), (2, .slice none 0 0), (3, .slice A12 n12 c12), (4, iV p8)] ∧ L = [kO2 A12 n12 c12 p12, kS1 A1 n1 c1 a0.Young, kS1 A2 n2 c2 a0.Old, boxC B3 24 [.slice A1 n1 c1, .slice A2 n2 c2]]) ?_ ?_
   ·refine G_block ?_
    refine G_seq ?_
    refine G_drawn (by kernel_rfl) _ (cv_refl _) ?_
    refine T3_ev 0 rfl (by kernel_rfl) (ev_fa rfl fa_24_1) rfl rfl ?_
    refine T3_rd 1 rfl (by kernel_rfl) (rd_box1 3 rfl rfl one22 rfl) rfl rfl ?_
    refine T3_ev 2 rfl (by kernel_rfl) (ev_move rfl) rfl rfl ?_
    obtain ⟨x13, hx13, h⟩ := bind_elim h
    obtain ⟨lx13, ux13, hx13⟩ := getE_elim hx13
    refine T3_rd 3 rfl (by kernel_rfl) (rd_idx 2 rfl els_sl rfl rfl Tryz.underlying22 size32 lx13 ux13) rfl rfl ?_
    refine T3_row 2 rfl hx13 (open_DCell x13) ?_
    rintro _ _ ⟨A14, n14, c14, A15, n15, c15, rfl, rfl⟩
    refine T3_rd 4 rfl (by kernel_rfl) (rd_rowS (us := [iV x13.Kind, iV x13.Shape, iV x13.Flags, iV x13.Age, .slice A14 n14 c14, .slice A15 n15 c15]) 0 rfl rfl agg32 rfl) rfl rfl ?_
    refine T3_ev 6 rfl (by kernel_rfl) (ev_fa rfl fa_24_1) rfl rfl ?_
    refine T3_rd 7 rfl (by kernel_rfl) (rd_box1 6 rfl rfl one22 rfl) rfl rfl ?_
    refine T3_ev 8 rfl (by kernel_rfl) (ev_move rfl) rfl rfl ?_
    obtain ⟨x17, hx17, h⟩ := bind_elim h
    obtain ⟨lx17, ux17, hx17⟩ := getE_elim hx17
    refine T3_rd 9 rfl (by kernel_rfl) (rd_idx 5 rfl els_sl rfl rfl Tryz.underlying22 size32 lx17 ux17) rfl rfl ?_
    refine T3_row 5 rfl hx17 (open_DCell x17) ?_
    rintro _ _ ⟨A18, n18, c18, A19, n19, c19, rfl, rfl⟩
    refine T3_rd 10 rfl (by kernel_rfl) (rd_rowS (us := [iV x17.Kind, iV x17.Shape, iV x17.Flags, iV x17.Age, .slice A18 n18 c18, .slice A19 n19 c19]) 0 rfl rfl agg32 rfl) rfl rfl ?_
    obtain ⟨y21, hy21, h⟩ := bind_elim h
    refine T3_opd 5 rfl (by kernel_rfl) (op_callR (r15_Leads_ok hy21) call93 rfl (mem_cons (lent_ro (i := 4) rfl rfl) (mem_cons (lent_ro (i := 5) rfl rfl) mem_nil)) r15_Leads_free) rfl rfl rfl ?_
    rintro _ _ ⟨_, ⟨A22, n22, c22, rfl, rfl⟩, rfl⟩
    refine ⟨[rowC (elemQ (.slice A2 n2 c2) p8.toNat 6 0) [iV x17.Kind, iV x17.Shape, iV x17.Flags, iV x17.Age, .slice A18 n18 c18, .slice A19 n19 c19], kS0 A18 n18 c18 x17.Slots, kS0 A19 n19 c19 x17.More, rowC (elemQ (.slice A2 n2 c2) p8.toNat 6 0) [iV x13.Kind, iV x13.Shape, iV x13.Flags, iV x13.Age, .slice A14 n14 c14, .slice A15 n15 c15], kS0 A14 n14 c14 x13.Slots, kS0 A15 n15 c15 x13.More, kO2 A7 n7 c7 p7, kS1 A1 n1 c1 a0.Young, kS1 A2 n2 c2 a0.Old, boxC B3 24 [.slice A1 n1 c1, .slice A2 n2 c2]], cv_sel [1, 2, 3, 4, 5, 6, 7, 8, 9, 10] 11 rfl rfl, cv_refl _, ?_⟩
    obtain ⟨y23, hy23, h⟩ := bind_elim h
    refine T3_opd 11 rfl (by kernel_rfl) (op_callR (r15_Weakly_ok hy23) call94 rfl (mem_cons (lent_ro (i := 2) rfl rfl) (mem_cons (lent_ro (i := 3) rfl rfl) mem_nil)) r15_Weakly_free) rfl rfl rfl ?_
    rintro _ _ ⟨_, ⟨A24, n24, c24, rfl, rfl⟩, rfl⟩
    refine ⟨[rowC (elemQ (.slice A2 n2 c2) p8.toNat 6 0) [iV x17.Kind, iV x17.Shape, iV x17.Flags, iV x17.Age, .slice A18 n18 c18, .slice A19 n19 c19], kS0 A18 n18 c18 x17.Slots, kS0 A19 n19 c19 x17.More, rowC (elemQ (.slice A2 n2 c2) p8.toNat 6 0) [iV x13.Kind, iV x13.Shape, iV x13.Flags, iV x13.Age, .slice A14 n14 c14, .slice A15 n15 c15], kS0 A14 n14 c14 x13.Slots, kS0 A15 n15 c15 x13.More, kO2 A7 n7 c7 p7, kS1 A1 n1 c1 a0.Young, kS1 A2 n2 c2 a0.Old, boxC B3 24 [.slice A1 n1 c1, .slice A2 n2 c2]], cv_sel [2, 3, 4, 5, 6, 7, 8, 9, 10, 11] 12 rfl rfl, cv_refl _, ?_⟩
    obtain ⟨q25, h⟩ := req_elim h
    refine T3_opd 12 rfl (by kernel_rfl) (op_append 1 0 rfl rfl els_own rfl rfl Tryz.underlying35 zb3 rfl rfl q25) rfl rfl rfl ?_
    rintro _ _ ⟨A26, n26, c26, rfl, rfl⟩
    refine ⟨[rowC (elemQ (.slice A2 n2 c2) p8.toNat 6 0) [iV x17.Kind, iV x17.Shape, iV x17.Flags, iV x17.Age, .slice A18 n18 c18, .slice A19 n19 c19], kS0 A18 n18 c18 x17.Slots, kS0 A19 n19 c19 x17.More, rowC (elemQ (.slice A2 n2 c2) p8.toNat 6 0) [iV x13.Kind, iV x13.Shape, iV x13.Flags, iV x13.Age, .slice A14 n14 c14, .slice A15 n15 c15], kS0 A14 n14 c14 x13.Slots, kS0 A15 n15 c15 x13.More, kO2 A7 n7 c7 p7, kS1 A1 n1 c1 a0.Young, kS1 A2 n2 c2 a0.Old, boxC B3 24 [.slice A1 n1 c1, .slice A2 n2 c2]], cv_sel [2, 3, 4, 5, 6, 7, 8, 9, 10, 11] 12 rfl rfl, cv_refl _, ?_⟩
    refine T3_norm ([kO2 A24 n24 c24 y23, kO2 A26 n26 c26 (y21 ++ y23), rowC (elemQ (.slice A2 n2 c2) p8.toNat 6 0) [iV x17.Kind, iV x17.Shape, iV x17.Flags, iV x17.Age, .slice A18 n18 c18, .slice A19 n19 c19], kS0 A18 n18 c18 x17.Slots, kS0 A19 n19 c19 x17.More, rowC (elemQ (.slice A2 n2 c2) p8.toNat 6 0) [iV x13.Kind, iV x13.Shape, iV x13.Flags, iV x13.Age, .slice A14 n14 c14, .slice A15 n15 c15], kS0 A14 n14 c14 x13.Slots, kS0 A15 n15 c15 x13.More, kO2 A7 n7 c7 p7, kS1 A1 n1 c1 a0.Young, kS1 A2 n2 c2 a0.Old, boxC B3 24 [.slice A1 n1 c1, .slice A2 n2 c2]]) rfl ?_
    refine T3_ev 13 rfl (by kernel_rfl) (ev_assign rfl) rfl rfl ?_
    refine T3_done (by kernel_rfl) ?_
    refine run ?_
    refine G_joinF (fun s L => ∃ (p28 : Bool), w20_kept_j27 N (w20_kept_l6 N a0 m6) p8 p7 a0 p28 = some r ∧ s = [(1, pV B3 0), (2, .slice none 0 0), (3, .slice A7 n7 c7), (4, iV p8), (6, .bool p28)] ∧ L = [kO2 A7 n7 c7 p7, kS1 A1 n1 c1 a0.Young, kS1 A2 n2 c2 a0.Old, boxC B3 24 [.slice A1 n1 c1, .slice A2 n2 c2]]) ?_ ?_
    ·refine run ?_
     refine G_loopF (fun m s L => ∃ (p30 : Bool) (p31 : Int), w20_kept_l29 N (w20_kept_l6 N a0 m6) p8 p7 y21 y23 a0 m p30 p31 = some r ∧ s = [(1, pV B3 0), (2, .slice none 0 0), (3, .slice A7 n7 c7), (4, iV p8), (5, .slice A26 n26 c26), (6, .bool p30), (7, iV p31)] ∧ L = [kO2 A7 n7 c7 p7, kO2 A26 n26 c26 (y21 ++ y23), kS1 A1 n1 c1 a0.Young, kS1 A2 n2 c2 a0.Old, boxC B3 24 [.slice A1 n1 c1, .slice A2 n2 c2]]) N _ _ ⟨false, 0, h, rfl, rfl⟩ sA (cv_sel [8, 1, 9, 10, 11] 12 rfl rfl) ?_
     rintro (_ | m29) _ _ ⟨p30, p31, h, rfl, rfl⟩
     ·exact none_some h
     rw [w20_kept_l29_s] at h
     refine G_seq ?_
     refine run ?_
     refine gR (rd_len 1 rfl els_own rfl Tryz.underlying35) ?_
     refine run ?_
     refine G_cond rfl (fun g32 => ?_) (fun g32 => ?_)
     ·replace h := cond_t g32 h
      refine run ?_
      refine G_seq ?_
      refine run ?_
      obtain ⟨b33, hb33, h⟩ := bind_elim h
      refine G_segb 6 41 b33 ?_ ?_
      ·clear h
       refine G_case 35 rfl (fun g33 => ?_) (fun g33 => ?_)
       ·have h := cond_t g33 hb33
        refine run ?_
        obtain rfl := Option.some.inj h
        exact G_joined sA (cv_sel [0, 1, 2, 3, 4] 5 rfl rfl)
       ·have h := cond_f g33 hb33
        refine run ?_
        obtain ⟨x34, hx34, h⟩ := bind_elim h
        obtain ⟨lx34, ux34, hx34⟩ := getE_elim hx34
        refine G_rd (rd_idx 1 rfl els_own rfl rfl Tryz.underlying35 size3 lx34 ux34) rfl (g_ff g33 rfl) rfl ?_
        refine G_rd (rd_elem1 (u := iV x34) 1 rfl els_own rfl hx34 one3 (fun _ _ _ h => by rw [show _ = _ from h]; rfl)) rfl (g_ff g33 rfl) rfl ?_
        obtain ⟨y35, hy35, h⟩ := bind_elim h
        refine G_opd (op_callR (r20_Young_ok hy35) call41 rfl (mem_nil) r20_Young_free) rfl (g_ff g33 rfl) rfl ?_
        rintro _ _ ⟨_, ⟨rfl, rfl⟩, rfl⟩
        refine run ?_
        obtain rfl := Option.some.inj h
        exact G_joined sA (cv_sel [0, 1, 2, 3, 4] 5 rfl rfl)
      refine run ?_
      obtain ⟨q36, h⟩ := req_elim h
      refine gE (ev_add rfl rfl q36.1 q36.2) ?_
      refine run ?_
      exact ⟨m29, _, _, Nat.lt_succ_self _, ⟨b33, p31 + 1, h, rfl, rfl⟩, sA, cv_sel [0, 1, 2, 3, 4] 5 rfl rfl⟩
     ·replace h := cond_f g32 h
      refine run ?_
      exact ⟨_, _, ⟨p30, h, rfl, rfl⟩, sA, cv_sel [0, 2, 3, 4] 5 rfl rfl⟩
    ·rintro _ _ ⟨p28, h, rfl, rfl⟩
     refine run ?_
     refine G_cond rfl (fun g37 => ?_) (fun g37 => ?_)
     ·replace h := cond_t g37 h
      refine run ?_
      obtain ⟨q38, h⟩ := req_elim h
      refine gE (ev_mul rfl rfl q38.1 q38.2) ?_
      obtain ⟨q39, h⟩ := req_elim h
      refine gE (ev_add rfl rfl q39.1 q39.2) ?_
      refine gD (op_bslice (R := (rInt .i64)) (vss := [[iV ((2 * p8) + 2)]]) (xs := [(2 * p8) + 2]) rfl (bsl_35_1 _) rfl rfl (fun _ _ hr => .cons rfl All2.nil)) ?_
      rintro _ _ ⟨A40, n40, c40, rfl, rfl⟩
      obtain ⟨q41, h⟩ := req_elim h
      refine gD (op_append 1 0 rfl rfl els_own rfl rfl Tryz.underlying35 zb3 rfl rfl q41) ?_
      rintro _ _ ⟨A42, n42, c42, rfl, rfl⟩
      refine run ?_
      exact ⟨_, _, ⟨p7 ++ ([(2 * p8) + 2] : List Int), A42, n42, c42, h, rfl, rfl⟩, sA, cv_sel [1, 2, 3, 4] 5 rfl rfl⟩
     ·replace h := cond_f g37 h
      refine run ?_
      exact ⟨_, _, ⟨p7, A7, n7, c7, h, rfl, rfl⟩, sA, cv_sel [0, 1, 2, 3] 4 rfl rfl⟩
   ·rintro _ _ ⟨p12, A12, n12, c12, h, rfl, rfl⟩
    refine run ?_
    obtain ⟨q43, h⟩ := req_elim h
    refine gE (ev_add rfl rfl q43.1 q43.2) ?_
    refine run ?_
    exact ⟨m6, _, _, Nat.lt_succ_self _, ⟨p12, p8 + 1, A12, n12, c12, h, rfl, rfl⟩, sA, cv_sel [0, 1, 2, 3] 4 rfl rfl⟩
  ·replace h := cond_f g10 h
   refine run ?_
   exact ⟨_, _, ⟨p7, A7, n7, c7, h, rfl, rfl⟩, sA, cv_sel [0] 4 rfl rfl⟩
 ·rintro _ _ ⟨p5, A5, n5, c5, h, rfl, rfl⟩
  refine run ?_
  obtain rfl := Option.some.inj h
  exact endG1 rfl rfl (cv_sel [0] 1 rfl rfl) ⟨_, _, _, rfl, rfl⟩
theorem w20_kept_free {r : (List Int)} : ∀ v post, ((fun (u : Value) (post : List Chunk) => ∃ A0 n0 c0, u = .slice A0 n0 c0 ∧ post = [kO2 A0 n0 c0 r])) v post → ∀ c ∈ post, Free c := by
 rintro _ _ ⟨_, _, _, rfl, rfl⟩; exact mem_cons free_own (mem_nil)
def minor_Live_O (N : Nat) (a0 : DMemory) (a1 : (List DValue)) (a2 : (List Int)) : Option (List Int) :=
 (minor_may_O N a0 a1 a2).bind fun y6 => bif !y6 then (some []) else ((minor_all_O N a0 a1 a2).bind fun y9 => some y9.met_)
theorem minor_Live_ok {N : Nat} {a0 : DMemory} {a1 : (List DValue)} {a2 : (List Int)} {r : (List Int)} (h : minor_Live_O N a0 a1 a2 = some r) {A1 : Option Addr} {n1 c1 : Nat} {A2 : Option Addr} {n2 c2 : Nat} {A3 : Option Addr} {n3 c3 : Nat} {A4 : Option Addr} {n4 c4 : Nat} : Okc Tryz.prog 39 [.agg #[.slice A1 n1 c1, .slice A2 n2 c2], .slice A3 n3 c3, .slice A4 n4 c4] ([kS1 A1 n1 c1 a0.Young, kS1 A2 n2 c2 a0.Old, kS0 A3 n3 c3 a1, kS5 A4 n4 c4 a2]) (fun (u : Value) (post : List Chunk) => ∃ A0 n0 c0, u = .slice A0 n0 c0 ∧ post = [kO2 A0 n0 c0 r]) := by
 refine ok_E Tryz.func39 rfl rfl ?_
 simp only [envOf]
 refine run ?_
 refine gD (op_box rfl rfl) ?_
 rintro _ _ ⟨B5, rfl, rfl⟩
 refine run ?_
 refine G_seq ?_
 refine run ?_
 refine gR (rd_boxS (us := [.slice A1 n1 c1, .slice A2 n2 c2]) 0 rfl rfl agg24 rfl) ?_
 refine run ?_
 obtain ⟨y6, hy6, h⟩ := bind_elim h
 refine gD (op_callR (minor_may_ok hy6) call95 rfl (mem_cons (lent_ro (i := 1) rfl rfl) (mem_cons (lent_ro (i := 2) rfl rfl) (mem_cons (lent_ro (i := 3) rfl rfl) (mem_cons (lent_ro (i := 4) rfl rfl) mem_nil)))) minor_may_free) ?_
 rintro _ _ ⟨_, ⟨rfl, rfl⟩, rfl⟩
 refine run ?_
 refine G_cond rfl (fun g7 => ?_) (fun g7 => ?_)
 ·replace h := cond_t g7 h
  refine run ?_
  obtain rfl := Option.some.inj h
  exact endG1 rfl rfl ((cv_nil (rInt .i64) 3 _).trans (cv_sel [0] 6 rfl rfl)) ⟨_, _, _, rfl, rfl⟩
 ·replace h := cond_f g7 h
  refine run ?_
  refine gR (rd_boxS (us := [.slice A1 n1 c1, .slice A2 n2 c2]) 0 rfl rfl agg24 rfl) ?_
  refine run ?_
  obtain ⟨y9, hy9, h⟩ := bind_elim h
  refine gD (op_call (minor_all_ok hy9) call96 rfl (cv_take [1, 2, 3, 4] [] [0, 1, 2, 3, 4] 5 rfl)) ?_
  rintro _ _ ⟨_, ⟨B10, A11, n11, c11, A12, n12, c12, A13, n13, c13, A14, n14, c14, M15, rfl, rfl⟩, rfl⟩
  refine run ?_
  obtain rfl := Option.some.inj h
  exact endG1 rfl rfl (cv_sel [4] 11 rfl rfl) ⟨_, _, _, rfl, rfl⟩
theorem minor_Live_free {r : (List Int)} : ∀ v post, ((fun (u : Value) (post : List Chunk) => ∃ A0 n0 c0, u = .slice A0 n0 c0 ∧ post = [kO2 A0 n0 c0 r])) v post → ∀ c ∈ post, Free c := by
 rintro _ _ ⟨_, _, _, rfl, rfl⟩; exact mem_cons free_own (mem_nil)
end Go.Proofs.YtmbaennilhdieaaGreat
/- Pure functions and contracts of Go functions (printed by all3.py). -/
namespace Go.Proofs.YtmbaennilhdieaaGreat
open Go.RowKit Asn
set_option maxRecDepth 20000
def w20_MinorReach_j43 (N : Nat) (y41 : ((List Int))) (p44 : Int) : Option Bool :=
 some (decide (p44 = (y41.length : Int)))
def w20_MinorReach_j49 (N : Nat) (kb45 : Int → Int → Option Bool) (p47 : Int) (y37 : ((List Int))) (y41 : ((List Int))) (p50 : Int) : Option Bool :=
 req (in64 (p47 + 1)) (kb45 p50 (p47 + 1))
def w20_MinorReach_l45 (N : Nat) (y37 : ((List Int))) (y41 : ((List Int))) : Nat → Int → Int → Option Bool
 | 0, _, _ => none
 | m45 + 1, p46, p47 => bif decide (p47 < (y37.length : Int)) then ((getE y37 p47).bind fun x51 => (r20_Young_O N x51).bind fun y52 => bif y52 then (req (in64 (p46 + 1)) ((getE y37 p47).bind fun x55 => (r17_In_O N x55 y41).bind fun y56 => bif !y56 then (some false) else (w20_MinorReach_j49 N (w20_MinorReach_l45 N y37 y41 m45) p47 y37 y41 (p46 + 1)))) else (w20_MinorReach_j49 N (w20_MinorReach_l45 N y37 y41 m45) p47 y37 y41 p46)) else (w20_MinorReach_j43 N y41 p46)
theorem w20_MinorReach_l45_s {N m45 : Nat} {y37 : ((List Int))} {y41 : ((List Int))} {p46 : Int} {p47 : Int} : w20_MinorReach_l45 N y37 y41 (m45 + 1) p46 p47 = bif decide (p47 < (y37.length : Int)) then ((getE y37 p47).bind fun x51 => (r20_Young_O N x51).bind fun y52 => bif y52 then (req (in64 (p46 + 1)) ((getE y37 p47).bind fun x55 => (r17_In_O N x55 y41).bind fun y56 => bif !y56 then (some false) else (w20_MinorReach_j49 N (w20_MinorReach_l45 N y37 y41 m45) p47 y37 y41 (p46 + 1)))) else (w20_MinorReach_j49 N (w20_MinorReach_l45 N y37 y41 m45) p47 y37 y41 p46)) else (w20_MinorReach_j43 N y41 p46) := rfl
def w20_MinorReach_j25 (N : Nat) (a1 : (List DValue)) (y7 : (DMemory)) (p26 : (List DValue)) : Option Bool :=
 (reach_Live_O N y7 p26).bind fun y37 => (w20_kept_O N y7).bind fun y39 => (minor_Live_O N y7 ((a1.drop 0).take ((min (a1.length : Int) 40).toNat - 0)) y39).bind fun y41 => w20_MinorReach_l45 N y37 y41 N 0 0
def w20_MinorReach_l27 (N : Nat) (a1 : (List DValue)) (y7 : (DMemory)) : Nat → (List DValue) → Int → Option Bool
 | 0, _, _ => none
 | m27 + 1, p28, p29 => bif decide (p29 < (y7.Old.length : Int)) then (req (in64 (2 * p29)) (req (in64 ((2 * p29) + 2)) (req (fitsL (p28.length + ([(⟨9, (2 * p29) + 2, ⟨#[]⟩⟩ : DValue)] : List DValue).length)) (req (in64 (p29 + 1)) ((w20_MinorReach_l27 N a1 y7 m27) (p28 ++ ([(⟨9, (2 * p29) + 2, ⟨#[]⟩⟩ : DValue)] : List DValue)) (p29 + 1)))))) else (w20_MinorReach_j25 N a1 y7 p28)
theorem w20_MinorReach_l27_s {N m27 : Nat} {a1 : (List DValue)} {y7 : (DMemory)} {p28 : (List DValue)} {p29 : Int} : w20_MinorReach_l27 N a1 y7 (m27 + 1) p28 p29 = bif decide (p29 < (y7.Old.length : Int)) then (req (in64 (2 * p29)) (req (in64 ((2 * p29) + 2)) (req (fitsL (p28.length + ([(⟨9, (2 * p29) + 2, ⟨#[]⟩⟩ : DValue)] : List DValue).length)) (req (in64 (p29 + 1)) ((w20_MinorReach_l27 N a1 y7 m27) (p28 ++ ([(⟨9, (2 * p29) + 2, ⟨#[]⟩⟩ : DValue)] : List DValue)) (p29 + 1)))))) else (w20_MinorReach_j25 N a1 y7 p28) := rfl
def w20_MinorReach_O (N : Nat) (a0 : DMemory) (a1 : (List DValue)) : Option Bool :=
 (w20_awake_O N).bind fun y5 => bif !y5 then (some false) else ((w20_Few_O N a0).bind fun y7 => req ((0 : Int) ≤ min (a1.length : Int) 40 ∧ 0 ≤ (min (a1.length : Int) 40).toNat ∧ (min (a1.length : Int) 40).toNat ≤ a1.length) ((r20_Fine_O N y7 ((a1.drop 0).take ((min (a1.length : Int) 40).toNat - 0))).bind fun y15 => bif !y15 then ((w20_kept_O N y7).bind fun y17 => (minor_Live_O N y7 ((a1.drop 0).take ((min (a1.length : Int) 40).toNat - 0)) y17).bind fun y20 => some (decide ((y20.length : Int) = 0))) else (req (fitsL (([] : List DValue).length + ((a1.drop 0).take ((min (a1.length : Int) 40).toNat - 0)).length)) (w20_MinorReach_l27 N a1 y7 N (([] : List DValue) ++ ((a1.drop 0).take ((min (a1.length : Int) 40).toNat - 0))) 0))))
theorem w20_MinorReach_ok {N : Nat} {a0 : DMemory} {a1 : (List DValue)} {r : Bool} (h : w20_MinorReach_O N a0 a1 = some r) {A1 : Option Addr} {n1 c1 : Nat} {A2 : Option Addr} {n2 c2 : Nat} {A3 : Option Addr} {n3 c3 : Nat} : Okc Tryz.prog 8 [.agg #[.slice A1 n1 c1, .slice A2 n2 c2], .slice A3 n3 c3] ([kS1 A1 n1 c1 a0.Young, kS1 A2 n2 c2 a0.Old, kS0 A3 n3 c3 a1]) (fun (u : Value) (post : List Chunk) => u = .bool r ∧ post = []) := by
 refine ok_E Tryz.func8 rfl rfl ?_
 simp only [envOf]
 refine run ?_
 refine gD (op_box rfl rfl) ?_
 rintro _ _ ⟨B4, rfl, rfl⟩
 refine run ?_
 refine G_seq ?_
 refine run ?_
 obtain ⟨y5, hy5, h⟩ := bind_elim h
 refine gD (op_callR (w20_awake_ok hy5) call36 rfl (mem_nil) w20_awake_free) ?_
 rintro _ _ ⟨_, ⟨rfl, rfl⟩, rfl⟩
 refine run ?_
 refine G_cond rfl (fun g6 => ?_) (fun g6 => ?_)
 ·replace h := cond_t g6 h
  refine run ?_
  obtain rfl := Option.some.inj h
  exact endG1 rfl rfl (cv_sel [] 4 rfl rfl) ⟨rfl, rfl⟩
 ·replace h := cond_f g6 h
  refine run ?_
  refine G_seq ?_
  obtain ⟨y7, hy7, h⟩ := bind_elim h
  obtain ⟨q12, h⟩ := req_elim h
  refine G_sub (t := [(1, .slice A3 n3 c3), (2, pV B4 0), (4, .bool false)]) ?_ subT (cv_refl _)
  refine G_monoX (by kernel_rfl) 7 [2, 3, 4, 5, 6] [1, 6] [13, 14, 15, 16, 17, 18, 19] [[], [0], [], [], [3], [4], [2, 5]] [aV (.agg #[.slice A1 n1 c1, .slice A2 n2 c2]),
 aX6 (fun (A10 : Option Addr) (n10 c10 : Nat) (A11 : Option Addr) (n11 c11 : Nat) => .agg #[.slice A10 n10 c10, .slice A11 n11 c11]) (fun A10 n10 c10 A11 n11 c11 => [kO4 A10 n10 c10 y7.Young, kO4 A11 n11 c11 y7.Old]),
 aV (.slice A3 n3 c3),
 aV (.slice A3 n3 c3),
 aV (iV (a1.length : Int)),
 aV (iV (min (a1.length : Int) 40)),
 aX3 (fun (A14 : Option Addr) (n14 c14 : Nat) => .slice A14 n14 c14) (fun A14 n14 c14 => [kS0 A14 n14 c14 ((a1.drop 0).take ((min (a1.length : Int) 40).toNat - 0))])] [] (cv_refl _) (qB_cons rfl (qB_cons rfl (qB_cons rfl (qB_cons rfl (qB_cons rfl qB_nil))))) (by kernel_rfl) rfl rfl ?_ ?_ ?_
  ·refine qs_cons rfl ?_ ?_
   ·exact QS_ev (ev_move rfl) rfl (cvpV rfl (cv_refl _))
   refine qs_cons rfl ?_ ?_
   ·exact QS_ev (ev_move rfl) rfl (cvpV rfl (cv_refl _))
   refine qs_cons rfl ?_ ?_
   ·exact QS_rd (qd_len 3 rfl els_sl rfl Tryz.underlying25) rfl (cvpV rfl (cv_refl _))
   refine qs_cons rfl ?_ ?_
   ·exact QS_ev (ev_min rfl rfl Tryz.underlying3 Tryz.underlying3) rfl (cvpV rfl (cv_refl _))
   refine qs_cons rfl ?_ ?_
   ·refine QS_cut 3 rfl (l := 0) (h := (min (a1.length : Int) 40).toNat) q12.2.1 q12.2.2 ?_
    rintro A13 n13 c13 e13
    exact QS_rd (qd_cut 4 rfl e13 rfl Tryz.underlying25 size38 rfl rfl (by rw [Int.toNat_of_nonneg q12.1]; rfl) q12.2.1 q12.2.2) rfl (cvp3 A13 n13 c13 (cv_refl _))
   exact qs_nil
  ·refine steps_cons rfl ?_ ?_
   ·refine X_cut 3 rfl (l := 0) (h := (min (a1.length : Int) 40).toNat) q12.2.1 q12.2.2 ?_
    rintro A13 n13 c13 e13
    exact X_rd (rd_cut 4 rfl e13 rfl Tryz.underlying25 size38 rfl rfl (by rw [Int.toNat_of_nonneg q12.1]; rfl) q12.2.1 q12.2.2) rfl (cvp3 A13 n13 c13 (cv_refl _))
   refine steps_cons rfl ?_ ?_
   ·exact X_ev (ev_min rfl rfl Tryz.underlying3 Tryz.underlying3) rfl (cvpV rfl (cv_refl _))
   refine steps_cons rfl ?_ ?_
   ·exact X_rd (rd_len 3 rfl els_sl rfl Tryz.underlying25) rfl (cvpV rfl (cv_refl _))
   refine steps_cons rfl ?_ ?_
   ·exact X_ev (ev_move rfl) rfl (cvpV rfl (cv_refl _))
   refine steps_cons rfl ?_ ?_
   ·exact X_ev (ev_move rfl) rfl (cvpV rfl (cv_refl _))
   refine steps_cons rfl ?_ ?_
   ·refine X_op (op_call (w20_Few_ok hy7) call37 rfl (cv_take [1, 2] [] [0, 1, 2, 3] 4 rfl)) rfl ?_
    rintro _ _ ⟨_, ⟨A8, n8, c8, A9, n9, c9, rfl, rfl⟩, rfl⟩
    exact cvp6 A8 n8 c8 A9 n9 c9 (cv_refl _)
   refine steps_cons rfl ?_ ?_
   ·exact X_rd (rd_boxS (us := [.slice A1 n1 c1, .slice A2 n2 c2]) 0 rfl rfl agg24 rfl) rfl (cvpV rfl (cv_refl _))
   exact steps_nil
  ·intro A10 n10 c10 A11 n11 c11 A14 n14 c14
   refine N_sub (t := [(14, .agg #[.slice A10 n10 c10, .slice A11 n11 c11]), (19, .slice A14 n14 c14), (1, .slice A3 n3 c3), (2, pV B4 0), (4, .bool false)]) (L' := [kO4 A10 n10 c10 y7.Young, kO4 A11 n11 c11 y7.Old, kS0 A14 n14 c14 ((a1.drop 0).take ((min (a1.length : Int) 40).toNat - 0)), boxC B4 24 [.slice A1 n1 c1, .slice A2 n2 c2], kS1 A1 n1 c1 a0.Young, kS1 A2 n2 c2 a0.Old, kS0 A3 n3 c3 a1]) ?_ subT (cv_refl _)
   refine N_opn 7 rfl (by kernel_rfl) (op_store (us := [.slice A10 n10 c10, .slice A11 n11 c11]) (cs' := [.slice A10 n10 c10, .slice A11 n11 c11]) 3 rfl rfl rfl rfl size24 rfl rfl rfl) rfl rfl ?_
   rintro _ _ rfl
   refine N_ev 8 rfl (by kernel_rfl) (ev_assign rfl) rfl rfl rfl ?_
   refine N_done (by kernel_rfl) ?_
   refine nx_n ?_
   refine G_seq ?_
   refine run ?_
   refine gR (rd_boxS (us := [.slice A10 n10 c10, .slice A11 n11 c11]) 3 rfl rfl agg24 rfl) ?_
   refine run ?_
   obtain ⟨y15, hy15, h⟩ := bind_elim h
   refine gD (op_callR (r20_Fine_ok hy15) call38 rfl (mem_cons (lent_own (i := 0) rfl) (mem_cons (lent_own (i := 1) rfl) (mem_cons (lent_ro (i := 2) rfl rfl) mem_nil))) r20_Fine_free) ?_
   rintro _ _ ⟨_, ⟨rfl, rfl⟩, rfl⟩
   refine run ?_
   refine G_cond rfl (fun g16 => ?_) (fun g16 => ?_)
   ·replace h := cond_t g16 h
    refine G_seq ?_
    obtain ⟨y17, hy17, h⟩ := bind_elim h
    refine G_sub (t := [(1, .slice A14 n14 c14), (2, pV B4 0), (4, .bool false)]) ?_ subT (cv_refl _)
    refine G_monoX (by kernel_rfl) 4 [] [0, 1, 3] [24, 25, 26, 27] [[], [], [], [2]] [aV (.agg #[.slice A10 n10 c10, .slice A11 n11 c11]),
 aV (.slice A14 n14 c14),
 aV (.agg #[.slice A10 n10 c10, .slice A11 n11 c11]),
 aX3 (fun (A19 : Option Addr) (n19 c19 : Nat) => .slice A19 n19 c19) (fun A19 n19 c19 => [kO2 A19 n19 c19 y17])] [] (cv_refl _) (qB_nil) (by kernel_rfl) rfl rfl ?_ ?_ ?_
    ·exact qs_nil
    ·refine steps_cons rfl ?_ ?_
     ·refine X_op (op_callR (w20_kept_ok hy17) call40 rfl (mem_cons (lent_own (i := 0) rfl) (mem_cons (lent_own (i := 1) rfl) mem_nil)) w20_kept_free) rfl ?_
      rintro _ _ ⟨_, ⟨A18, n18, c18, rfl, rfl⟩, rfl⟩
      exact cvp3 A18 n18 c18 (cv_refl _)
     refine steps_cons rfl ?_ ?_
     ·exact X_rd (rd_boxS (us := [.slice A10 n10 c10, .slice A11 n11 c11]) 3 rfl rfl agg24 rfl) rfl (cvpV rfl (cv_refl _))
     refine steps_cons rfl ?_ ?_
     ·exact X_ev (ev_move rfl) rfl (cvpV rfl (cv_refl _))
     refine steps_cons rfl ?_ ?_
     ·exact X_rd (rd_boxS (us := [.slice A10 n10 c10, .slice A11 n11 c11]) 3 rfl rfl agg24 rfl) rfl (cvpV rfl (cv_refl _))
     exact steps_nil
    ·intro A19 n19 c19
     refine N_sub (t := [(24, .agg #[.slice A10 n10 c10, .slice A11 n11 c11]), (25, .slice A14 n14 c14), (27, .slice A19 n19 c19), (1, .slice A14 n14 c14), (2, pV B4 0), (4, .bool false)]) (L' := [kO2 A19 n19 c19 y17, kO4 A10 n10 c10 y7.Young, kO4 A11 n11 c11 y7.Old, kS0 A14 n14 c14 ((a1.drop 0).take ((min (a1.length : Int) 40).toNat - 0)), boxC B4 24 [.slice A10 n10 c10, .slice A11 n11 c11], kS1 A1 n1 c1 a0.Young, kS1 A2 n2 c2 a0.Old, kS0 A3 n3 c3 a1]) ?_ subT (cv_refl _)
     obtain ⟨y20, hy20, h⟩ := bind_elim h
     refine N_opd 4 rfl (by kernel_rfl) (op_callR (minor_Live_ok hy20) call39 rfl (mem_cons (lent_own (i := 1) rfl) (mem_cons (lent_own (i := 2) rfl) (mem_cons (lent_ro (i := 3) rfl rfl) (mem_cons (lent_own (i := 0) rfl) mem_nil)))) minor_Live_free) rfl rfl rfl ?_
     rintro _ _ ⟨_, ⟨A21, n21, c21, rfl, rfl⟩, rfl⟩
     refine N_rd 5 rfl (by kernel_rfl) (rd_len 0 rfl els_own rfl Tryz.underlying35) rfl rfl rfl ?_
     refine N_ev 6 rfl (by kernel_rfl) (ev_eq rfl rfl) rfl rfl rfl ?_
     refine N_ev 7 rfl (by kernel_rfl) (ev_assign rfl) rfl rfl rfl ?_
     refine N_done (by kernel_rfl) ?_
     refine run ?_
     obtain rfl := Option.some.inj h
     exact endG1 rfl rfl (cv_sel [] 9 rfl rfl) ⟨rfl, rfl⟩
   ·replace h := cond_f g16 h
    refine run ?_
    refine gD (op_bslice (R := rDValue) (vss := []) (xs := []) rfl (bsl_25_0) rfl rfl (fun _ _ hr => All2.nil)) ?_
    rintro _ _ ⟨A22, n22, c22, rfl, rfl⟩
    refine run ?_
    obtain ⟨q23, h⟩ := req_elim h
    refine gD (op_append 0 3 rfl rfl els_sl rfl rfl Tryz.underlying25 zb38 rfl rfl q23) ?_
    rintro _ _ ⟨A24, n24, c24, rfl, rfl⟩
    refine run ?_
    refine G_joinF (fun s L => ∃ (p26 : (List DValue)) (A26 : Option Addr) (n26 c26 : Nat), w20_MinorReach_j25 N a1 y7 p26 = some r ∧ s = [(1, .slice A14 n14 c14), (2, pV B4 0), (4, .bool false), (5, .slice A26 n26 c26)] ∧ L = [kS0 A14 n14 c14 ((a1.drop 0).take ((min (a1.length : Int) 40).toNat - 0)), kO3 A26 n26 c26 p26, kO4 A10 n10 c10 y7.Young, kO4 A11 n11 c11 y7.Old, boxC B4 24 [.slice A10 n10 c10, .slice A11 n11 c11]]) ?_ ?_
    ·refine run ?_
     refine G_loopF (fun m s L => ∃ (p28 : (List DValue)) (p29 : Int) (A28 : Option Addr) (n28 c28 : Nat), w20_MinorReach_l27 N a1 y7 m p28 p29 = some r ∧ s = [(1, .slice A14 n14 c14), (2, pV B4 0), (4, .bool false), (5, .slice A28 n28 c28), (6, iV p29)] ∧ L = [kS0 A14 n14 c14 ((a1.drop 0).take ((min (a1.length : Int) 40).toNat - 0)), kO3 A28 n28 c28 p28, kO4 A10 n10 c10 y7.Young, kO4 A11 n11 c11 y7.Old, boxC B4 24 [.slice A10 n10 c10, .slice A11 n11 c11]]) N _ _ ⟨([] : List DValue) ++ ((a1.drop 0).take ((min (a1.length : Int) 40).toNat - 0)), 0, A24, n24, c24, h, rfl, rfl⟩ sA (cv_sel [3, 0, 1, 2, 4] 8 rfl rfl) ?_
     rintro (_ | m27) _ _ ⟨p28, p29, A28, n28, c28, h, rfl, rfl⟩
     ·exact none_some h
     rw [w20_MinorReach_l27_s] at h
     refine G_seq ?_
     refine run ?_
     refine gR (rd_len 3 rfl els_own rfl Tryz.underlying22) ?_
     refine run ?_
     refine G_cond rfl (fun g30 => ?_) (fun g30 => ?_)
     ·replace h := cond_t g30 h
      refine run ?_
      refine G_seq ?_
      refine run ?_
      obtain ⟨q31, h⟩ := req_elim h
      refine gE (ev_mul rfl rfl q31.1 q31.2) ?_
      obtain ⟨q32, h⟩ := req_elim h
      refine gE (ev_add rfl rfl q32.1 q32.2) ?_
      refine gE (ev_build rfl (bld_38_0_1 _ _)) ?_
      refine gD (op_bslice (R := rDValue) (vss := [[iV 9, iV ((2 * p29) + 2), .string (⟨#[]⟩)]]) (xs := [(⟨9, (2 * p29) + 2, ⟨#[]⟩⟩ : DValue)]) rfl (bsl_25_1 _ _ _) rfl rfl (fun _ _ hr => .cons rfl All2.nil)) ?_
      rintro _ _ ⟨A33, n33, c33, rfl, rfl⟩
      obtain ⟨q34, h⟩ := req_elim h
      refine gD (op_append 2 0 rfl rfl els_own rfl rfl Tryz.underlying25 zb38 rfl rfl q34) ?_
      rintro _ _ ⟨A35, n35, c35, rfl, rfl⟩
      refine G_norm ([kO3 A33 n33 c33 ([(⟨9, (2 * p29) + 2, ⟨#[]⟩⟩ : DValue)] : List DValue), kS0 A14 n14 c14 ((a1.drop 0).take ((min (a1.length : Int) 40).toNat - 0)), kO3 A35 n35 c35 (p28 ++ ([(⟨9, (2 * p29) + 2, ⟨#[]⟩⟩ : DValue)] : List DValue)), kO4 A10 n10 c10 y7.Young, kO4 A11 n11 c11 y7.Old, boxC B4 24 [.slice A10 n10 c10, .slice A11 n11 c11]]) rfl ?_
      refine run ?_
      obtain ⟨q36, h⟩ := req_elim h
      refine gE (ev_add rfl rfl q36.1 q36.2) ?_
      refine run ?_
      exact ⟨m27, _, _, Nat.lt_succ_self _, ⟨p28 ++ ([(⟨9, (2 * p29) + 2, ⟨#[]⟩⟩ : DValue)] : List DValue), p29 + 1, A35, n35, c35, h, rfl, rfl⟩, sA, cv_sel [1, 2, 3, 4, 5] 6 rfl rfl⟩
     ·replace h := cond_f g30 h
      refine run ?_
      exact ⟨_, _, ⟨p28, A28, n28, c28, h, rfl, rfl⟩, sA, cv_sel [0, 1, 2, 3, 4] 5 rfl rfl⟩
    ·rintro _ _ ⟨p26, A26, n26, c26, h, rfl, rfl⟩
     refine run ?_
     refine gR (rd_boxS (us := [.slice A10 n10 c10, .slice A11 n11 c11]) 4 rfl rfl agg24 rfl) ?_
     refine run ?_
     obtain ⟨y37, hy37, h⟩ := bind_elim h
     refine gD (op_callR (reach_Live_ok hy37) call23 rfl (mem_cons (lent_own (i := 2) rfl) (mem_cons (lent_own (i := 3) rfl) (mem_cons (lent_own (i := 1) rfl) mem_nil))) reach_Live_free) ?_
     rintro _ _ ⟨_, ⟨A38, n38, c38, rfl, rfl⟩, rfl⟩
     refine run ?_
     refine G_seq ?_
     refine G_drawn (by kernel_rfl) _ (cv_refl _) ?_
     refine T3_rd 0 rfl (by kernel_rfl) (rd_boxS (us := [.slice A10 n10 c10, .slice A11 n11 c11]) 5 rfl rfl agg24 rfl) rfl rfl ?_
     refine T3_ev 1 rfl (by kernel_rfl) (ev_move rfl) rfl rfl ?_
     refine T3_rd 2 rfl (by kernel_rfl) (rd_boxS (us := [.slice A10 n10 c10, .slice A11 n11 c11]) 5 rfl rfl agg24 rfl) rfl rfl ?_
     obtain ⟨y39, hy39, h⟩ := bind_elim h
     refine T3_opd 3 rfl (by kernel_rfl) (op_callR (w20_kept_ok hy39) call40 rfl (mem_cons (lent_own (i := 3) rfl) (mem_cons (lent_own (i := 4) rfl) mem_nil)) w20_kept_free) rfl rfl rfl ?_
     rintro _ _ ⟨_, ⟨A40, n40, c40, rfl, rfl⟩, rfl⟩
     refine ⟨[kO2 A38 n38 c38 y37, kS0 A14 n14 c14 ((a1.drop 0).take ((min (a1.length : Int) 40).toNat - 0)), kO3 A26 n26 c26 p26, kO4 A10 n10 c10 y7.Young, kO4 A11 n11 c11 y7.Old, boxC B4 24 [.slice A10 n10 c10, .slice A11 n11 c11]], cv_sel [1, 2, 3, 4, 5, 6] 7 rfl rfl, cv_refl _, ?_⟩
     obtain ⟨y41, hy41, h⟩ := bind_elim h
     refine T3_opd 4 rfl (by kernel_rfl) (op_callR (minor_Live_ok hy41) call39 rfl (mem_cons (lent_own (i := 4) rfl) (mem_cons (lent_own (i := 5) rfl) (mem_cons (lent_ro (i := 2) rfl rfl) (mem_cons (lent_own (i := 0) rfl) mem_nil)))) minor_Live_free) rfl rfl rfl ?_
     rintro _ _ ⟨_, ⟨A42, n42, c42, rfl, rfl⟩, rfl⟩
     refine ⟨[kO2 A38 n38 c38 y37, kS0 A14 n14 c14 ((a1.drop 0).take ((min (a1.length : Int) 40).toNat - 0)), kO3 A26 n26 c26 p26, kO4 A10 n10 c10 y7.Young, kO4 A11 n11 c11 y7.Old, boxC B4 24 [.slice A10 n10 c10, .slice A11 n11 c11]], cv_sel [2, 3, 4, 5, 6, 7] 8 rfl rfl, cv_refl _, ?_⟩
     refine T3_ev 5 rfl (by kernel_rfl) (ev_assign rfl) rfl rfl ?_
     refine T3_done (by kernel_rfl) ?_
     refine run ?_
     refine G_joinF (fun s L => ∃ (p44 : Int), w20_MinorReach_j43 N y41 p44 = some r ∧ s = [(4, .bool false), (8, .slice A42 n42 c42), (9, iV p44)] ∧ L = [kO2 A42 n42 c42 y41]) ?_ ?_
     ·refine run ?_
      refine G_loopF (fun m s L => ∃ (p46 : Int) (p47 : Int), w20_MinorReach_l45 N y37 y41 m p46 p47 = some r ∧ s = [(4, .bool false), (7, .slice A38 n38 c38), (8, .slice A42 n42 c42), (9, iV p46), (10, iV p47)] ∧ L = [kO2 A38 n38 c38 y37, kO2 A42 n42 c42 y41]) N _ _ ⟨0, 0, h, rfl, rfl⟩ sA (cv_sel [2, 0] 8 rfl rfl) ?_
      rintro (_ | m45) _ _ ⟨p46, p47, h, rfl, rfl⟩
      ·exact none_some h
      rw [w20_MinorReach_l45_s] at h
      refine G_seq ?_
      refine run ?_
      refine gR (rd_len 0 rfl els_own rfl Tryz.underlying35) ?_
      refine run ?_
      refine G_cond rfl (fun g48 => ?_) (fun g48 => ?_)
      ·replace h := cond_t g48 h
       refine run ?_
       refine G_joinF (fun s L => ∃ (p50 : Int), w20_MinorReach_j49 N (w20_MinorReach_l45 N y37 y41 m45) p47 y37 y41 p50 = some r ∧ s = [(4, .bool false), (7, .slice A38 n38 c38), (8, .slice A42 n42 c42), (9, iV p50), (10, iV p47)] ∧ L = [kO2 A38 n38 c38 y37, kO2 A42 n42 c42 y41]) ?_ ?_
       ·refine run ?_
        obtain ⟨x51, hx51, h⟩ := bind_elim h
        obtain ⟨lx51, ux51, hx51⟩ := getE_elim hx51
        refine gR (rd_idx 0 rfl els_own rfl rfl Tryz.underlying35 size3 lx51 ux51) ?_
        refine gR (rd_elem1 (u := iV x51) 0 rfl els_own rfl hx51 one3 (fun _ _ _ h => by rw [show _ = _ from h]; rfl)) ?_
        obtain ⟨y52, hy52, h⟩ := bind_elim h
        refine gD (op_callR (r20_Young_ok hy52) call41 rfl (mem_nil) r20_Young_free) ?_
        rintro _ _ ⟨_, ⟨rfl, rfl⟩, rfl⟩
        refine run ?_
        refine G_cond rfl (fun g53 => ?_) (fun g53 => ?_)
        ·replace h := cond_t g53 h
         refine run ?_
         obtain ⟨q54, h⟩ := req_elim h
         refine gE (ev_add rfl rfl q54.1 q54.2) ?_
         refine run ?_
         obtain ⟨x55, hx55, h⟩ := bind_elim h
         obtain ⟨lx55, ux55, hx55⟩ := getE_elim hx55
         refine gR (rd_idx 0 rfl els_own rfl rfl Tryz.underlying35 size3 lx55 ux55) ?_
         refine gR (rd_elem1 (u := iV x55) 0 rfl els_own rfl hx55 one3 (fun _ _ _ h => by rw [show _ = _ from h]; rfl)) ?_
         refine run ?_
         obtain ⟨y56, hy56, h⟩ := bind_elim h
         refine gD (op_callR (r17_In_ok hy56) call42 rfl (mem_cons (lent_own (i := 1) rfl) mem_nil) r17_In_free) ?_
         rintro _ _ ⟨_, ⟨rfl, rfl⟩, rfl⟩
         refine run ?_
         refine G_cond rfl (fun g57 => ?_) (fun g57 => ?_)
         ·replace h := cond_t g57 h
          refine run ?_
          obtain rfl := Option.some.inj h
          exact endG1 rfl rfl (cv_sel [] 2 rfl rfl) ⟨rfl, rfl⟩
         ·replace h := cond_f g57 h
          refine run ?_
          exact ⟨_, _, ⟨p46 + 1, h, rfl, rfl⟩, sA, cv_sel [0, 1] 2 rfl rfl⟩
        ·replace h := cond_f g53 h
         refine run ?_
         exact ⟨_, _, ⟨p46, h, rfl, rfl⟩, sA, cv_sel [0, 1] 2 rfl rfl⟩
       ·rintro _ _ ⟨p50, h, rfl, rfl⟩
        refine run ?_
        obtain ⟨q58, h⟩ := req_elim h
        refine gE (ev_add rfl rfl q58.1 q58.2) ?_
        refine run ?_
        exact ⟨m45, _, _, Nat.lt_succ_self _, ⟨p50, p47 + 1, h, rfl, rfl⟩, sA, cv_sel [0, 1] 2 rfl rfl⟩
      ·replace h := cond_f g48 h
       refine run ?_
       exact ⟨_, _, ⟨p46, h, rfl, rfl⟩, sA, cv_sel [1] 2 rfl rfl⟩
     ·rintro _ _ ⟨p44, h, rfl, rfl⟩
      refine run ?_
      refine gR (rd_len 0 rfl els_own rfl Tryz.underlying35) ?_
      refine run ?_
      obtain rfl := Option.some.inj h
      exact endG1 rfl rfl (cv_sel [] 1 rfl rfl) ⟨rfl, rfl⟩
end Go.Proofs.YtmbaennilhdieaaGreat
/- All printed functions. -/
/- Plain tools for translated functions: results in Option, loops with fuel. Over any program. -/
namespace Go.Proofs.YtmbaennilhdieaaGreat
open Go.RowKit
def Sat {ρ : Type} (m : Option ρ) (R : ρ → Prop) : Prop := ∃ r, m = some r ∧ R r
theorem sat_some {ρ : Type} {x : ρ} {R : ρ → Prop} (h : R x) : Sat (some x) R := ⟨x, rfl, h⟩
theorem Sat.eq {ρ : Type} {m : Option ρ} {x : ρ} (h : Sat m (· = x)) : m = some x := by obtain ⟨r, h1, rfl⟩ := h; exact h1
theorem Sat.mono {ρ : Type} {m : Option ρ} {R Q : ρ → Prop} (h : Sat m R) (k : ∀ x, R x → Q x) : Sat m Q := by obtain ⟨r, h1, h2⟩ := h; exact ⟨r, h1, k _ h2⟩
theorem Sat.bind {ρ σ : Type} {m : Option σ} {f : σ → Option ρ} {P : σ → Prop} {R : ρ → Prop} (h : Sat m P) (k : ∀ x, P x → Sat (f x) R) : Sat (m.bind f) R := by obtain ⟨x, rfl, h2⟩ := h; exact k x h2
theorem sat_cond {ρ : Type} {b : Bool} {x y : Option ρ} {R : ρ → Prop} (h1 : b = true → Sat x R) (h2 : b = false → Sat y R) : Sat (bif b then x else y) R := by cases b with | true => exact h1 rfl | false => exact h2 rfl
theorem sat_dec {ρ : Type} {p : Prop} [Decidable p] {x y : Option ρ} {R : ρ → Prop} (h1 : p → Sat x R) (h2 : ¬ p → Sat y R) : Sat (bif decide p then x else y) R := by
 by_cases h : p
 ·rw [decide_eq_true h]; exact h1 h
 ·rw [decide_eq_false h]; exact h2 h
theorem bs {ρ σ : Type} {x : σ} {f : σ → Option ρ} : (some x).bind f = f x := Eq.trans rfl rfl
theorem ct {ρ : Type} {x y : ρ} : (bif true then x else y) = x := Eq.trans rfl rfl
theorem cf {ρ : Type} {x y : ρ} : (bif false then x else y) = y := Eq.trans rfl rfl
theorem nt : (!true) = false := Eq.trans rfl rfl
theorem nf : (!false) = true := Eq.trans rfl rfl
theorem lt_t {a b : Int} (h : a < b) : decide (a < b) = true := decide_eq_true h
theorem lt_f {a b : Int} (h : b ≤ a) : decide (a < b) = false := decide_eq_false (by omega)
theorem le_t {a b : Int} (h : a ≤ b) : decide (a ≤ b) = true := decide_eq_true h
theorem le_f {a b : Int} (h : b < a) : decide (a ≤ b) = false := decide_eq_false (by omega)
theorem eq_t {a b : Int} (h : a = b) : decide (a = b) = true := decide_eq_true h
theorem eq_f {a b : Int} (h : a ≠ b) : decide (a = b) = false := decide_eq_false h
theorem req_t {ρ : Type} {b : Prop} [Decidable b] {m : Option ρ} (h : b) : req b m = m := if_pos h
theorem r64 {ρ : Type} {a : Int} {m : Option ρ} (h1 : -9000000000000000000 ≤ a) (h2 : a ≤ 9000000000000000000) : req (in64 a) m = m := if_pos ⟨by omega, by omega⟩
theorem rF {ρ : Type} {n : Nat} {m : Option ρ} (h : n ≤ 1000000) : req (fitsL n) m = m := if_pos (by unfold fitsL; omega)
theorem getE_at {α : Type} {xs : List α} {i : Int} (h0 : 0 ≤ i) (h1 : i.toNat < xs.length) : getE xs i = some xs[i.toNat] := by
 unfold getE
 rw [if_neg (by omega), List.getElem?_eq_getElem h1]
theorem getE_n {α : Type} {xs : List α} {i : Nat} (h1 : i < xs.length) : getE xs (i : Int) = some xs[i] := by
 unfold getE
 rw [if_neg (by omega), Int.toNat_natCast, List.getElem?_eq_getElem h1]
theorem loop_inv {σ ρ : Type} (L : Nat → Nat → σ → Option ρ) (n : Nat) (Inv : Nat → σ → Prop) (R : ρ → Prop)
  (round : ∀ m i s, i < n → Inv i s → (∀ s', Inv (i + 1) s' → Sat (L m (i + 1) s') R) → Sat (L (m + 1) i s) R)
  (fin : ∀ m s, Inv n s → Sat (L (m + 1) n s) R) : ∀ m i s, n < m + i → i ≤ n → Inv i s → Sat (L m i s) R
 | 0, i, s, h, h2, _ => by omega
 | m + 1, i, s, h, h2, hi => by
  by_cases e : i = n
  ·subst e; exact fin m s hi
  ·exact round m i s (by omega) hi fun s' h' => loop_inv L n Inv R round fin m (i + 1) s' (by omega) (by omega) h'
theorem loop_dec {σ ρ : Type} (L : Nat → σ → Option ρ) (v : σ → Nat) (Inv : σ → Prop) (R : ρ → Prop)
  (round : ∀ m s, Inv s → (∀ s', v s' < v s → Inv s' → Sat (L m s') R) → Sat (L (m + 1) s) R) : ∀ m s, v s < m → Inv s → Sat (L m s) R
 | 0, _, h, _ => by omega
 | m + 1, s, h, hi => round m s hi fun s' h1 h2 => loop_dec L v Inv R round m s' (by omega) h2
theorem take_succ_get {α : Type} {l : List α} {i : Nat} (h : i < l.length) : l.take (i + 1) = l.take i ++ [l[i]] := by
 rw [List.take_add_one, List.getElem?_eq_getElem h]; rfl
theorem asc_ext : ∀ {a b : List Int}, a.Pairwise (· < ·) → b.Pairwise (· < ·) → (∀ x, x ∈ a ↔ x ∈ b) → a = b
 | [], [], _, _, _ => rfl
 | [], y :: b, _, _, h => by have := (h y).2 (by simp); cases this
 | x :: a, [], _, _, h => by have := (h x).1 (by simp); cases this
 | x :: a, y :: b, ha, hb, h => by
  obtain ⟨ha1, ha2⟩ := List.pairwise_cons.1 ha
  obtain ⟨hb1, hb2⟩ := List.pairwise_cons.1 hb
  have e : x = y := by
   rcases List.mem_cons.1 ((h x).1 (by simp)) with e | h1
   ·exact e
   ·rcases List.mem_cons.1 ((h y).2 (by simp)) with e | h2
    ·exact e.symm
    ·have := hb1 x h1; have := ha1 y h2; omega
  subst e
  rw [asc_ext ha2 hb2 fun z => ?_]
  constructor
  ·intro hz
   rcases List.mem_cons.1 ((h z).1 (by simp [hz])) with e | h1
   ·subst e; exact absurd (ha1 z hz) (by omega)
   ·exact h1
  ·intro hz
   rcases List.mem_cons.1 ((h z).2 (by simp [hz])) with e | h1
   ·subst e; exact absurd (hb1 z hz) (by omega)
   ·exact h1
theorem fp_mem {α β : Type} [DecidableEq α] (a : α) (L : List (α × β)) : (∃ i b, fp a L 0 = some (i, b) ∧ L[i]? = some (a, b)) ∨ (fp a L 0 = none ∧ a ∉ L.map (·.1)) := by
 cases h : fp a L 0 with
 | none => exact .inr ⟨rfl, fun h1 => by
   obtain ⟨p, h2, h3⟩ := List.mem_map.1 h1
   exact (fp_none a L).1 h p h2 h3⟩
 | some q => obtain ⟨i, b⟩ := q; exact .inl ⟨i, b, rfl, (fp_at a L 0 i b h).2⟩
theorem upL_keys {α β : Type} [DecidableEq α] (L : List (α × β)) (a : α) (b : β) : (upL L a b).map (·.1) = if a ∈ L.map (·.1) then L.map (·.1) else L.map (·.1) ++ [a] := by
 unfold upL
 rcases fp_mem a L with ⟨i, c, h1, h2⟩ | ⟨h1, h2⟩
 ·have hm : a ∈ L.map (·.1) := List.mem_map.2 ⟨_, List.mem_of_getElem? h2, rfl⟩
  rw [h1, if_pos hm]
  show (L.set i (a, b)).map (·.1) = _
  rw [List.map_set]
  apply List.ext_getElem?
  intro j
  by_cases e : i = j
  ·subst e
   have hlt := (List.getElem?_eq_some_iff.1 h2).1
   rw [List.getElem?_set_self (by simpa using hlt), List.getElem?_map, h2]; rfl
  ·rw [List.getElem?_set_ne e]
 ·rw [h1, if_neg h2]
  show (L ++ [(a, b)]).map (·.1) = _
  rw [List.map_append]; rfl
theorem upL_mem {α β : Type} [DecidableEq α] (L : List (α × β)) (a : α) (b : β) (x : α) : x ∈ (upL L a b).map (·.1) ↔ x = a ∨ x ∈ L.map (·.1) := by
 rw [upL_keys]
 split
 ·constructor
  ·exact .inr
  ·rintro (rfl | h) <;> assumption
 ·rw [List.mem_append, List.mem_singleton]; exact Or.comm
end Go.Proofs.YtmbaennilhdieaaGreat
/- The examples of the specification, by computation. -/
namespace Go.Proofs.YtmbaennilhdieaaGreat
open Go.RowKit
end Go.Proofs.YtmbaennilhdieaaGreat
/- Plain: references of a cell, on both sides. -/
namespace Go.Proofs.YtmbaennilhdieaaGreat
open Go.RowKit
theorem getE_nat {α : Type} (xs : List α) (i : Nat) : getE xs (i : Int) = xs[i]? := by
 unfold getE; rw [if_neg (by omega)]; simp
theorem req_pos {ρ : Type} {b : Prop} [Decidable b] {m : Option ρ} (h : b) : req b m = m := if_pos h
def hasB (v : DValue) : Bool := decide (v.Kind = 7) || decide (v.Kind = 9)
def strongB (k : Int) (i : Nat) : Bool := !decide (k = 8) && (!decide (k = 10) || decide ((i : Int).tmod 2 = 0))
def pick (f : Nat → DValue → Bool) : Nat → List DValue → List Int
 | _, [] => []
 | i, v :: l => (bif f i v then [v.N] else []) ++ pick f (i + 1) l
theorem pick_cons (f : Nat → DValue → Bool) (i : Nat) (v : DValue) (l : List DValue) : pick f i (v :: l) = (bif f i v then [v.N] else []) ++ pick f (i + 1) l := rfl
theorem pick_len (f : Nat → DValue → Bool) : ∀ (i : Nat) (l : List DValue), (pick f i l).length ≤ l.length
 | _, [] => Nat.le_refl _
 | i, v :: l => by
  have := pick_len f (i + 1) l
  unfold pick
  cases f i v <;> simp <;> omega
theorem pick_none : ∀ (i : Nat) (l : List DValue), pick (fun _ _ => false) i l = []
 | _, [] => rfl
 | i, v :: l => by unfold pick; simp [pick_none (i + 1) l]
theorem cell_leads_spec (N : Nat) (v : DValue) : cell_leads_O N v = some (hasB v) := by
 unfold cell_leads_O hasB; cases decide (v.Kind = 7) <;> rfl
theorem ref_has_spec (N : Nat) (v : DValue) : r15_has_O N v = some (hasB v) := by
 unfold r15_has_O hasB; cases decide (v.Kind = 7) <;> rfl
theorem body_spec (N : Nat) (a b : Bool) (x : DValue) (p : List Int) (h : p.length ≤ 5000) : liftR (fun x st => cell_addresses_b8 N a x st) (b, x) (none, p) = some (true, (none, p ++ (bif (b == a) && hasB x then [x.N] else []))) := by
 unfold liftR cell_addresses_b8
 simp only [cell_leads_spec, Option.bind_some]
 cases b == a
 ·simp
 ·cases hasB x
  ·simp
  ·have : fitsL (p.length + [x.N].length) := by unfold fitsL; simp only [List.length_cons, List.length_nil]; omega
   simp only [cond_true, Option.bind_some, Bool.and_self]
   rw [req_pos this]
   rfl
theorem all_l15 (N : Nat) (a : Bool) (c : DCell) (hc : c.More.length ≤ 1000) (K : Nat) (hK : K ≤ 1000) : ∀ (m i : Nat) (p : List Int), c.More.length < m + i → i ≤ c.More.length → p.length ≤ K + i → cell_all_c1_l15 N (liftR (fun x st => cell_addresses_b8 N a x st)) c m (i : Int) (none, p) = some (none, p ++ pick (fun i v => (strongB c.Kind i == a) && hasB v) i (c.More.drop i))
 | 0, i, p, h, h2, _ => by omega
 | m + 1, i, p, h, h2, h3 => by
  rw [cell_all_c1_l15_s]
  by_cases hi : i < c.More.length
  ·rw [show (decide ((i : Int) < (c.More.length : Int))) = true from decide_eq_true (by omega), getE_nat, List.getElem?_eq_getElem hi, List.drop_eq_getElem_cons hi]
   simp only [cond_true, Option.bind_some]
   have hs : (bif !decide (c.Kind = 8) then ((bif !decide (c.Kind = 10) then (some true) else (some (decide ((i : Int).tmod 2 = 0)))).bind fun b22 => some b22) else (some false)) = some (strongB c.Kind i) := by
    unfold strongB; cases decide (c.Kind = 8) <;> cases decide (c.Kind = 10) <;> rfl
   rw [hs]
   simp only [Option.bind_some]
   rw [body_spec N a _ _ _ (by omega)]
   rw [Option.bind_some]
   dsimp only
   rw [Bool.not_true, cond_false]
   rw [req_pos (by unfold in64; omega)]
   have hlen : (p ++ (bif (strongB c.Kind i == a) && hasB c.More[i] then [c.More[i].N] else [])).length ≤ K + (i + 1) := by
    cases (strongB c.Kind i == a) && hasB c.More[i] <;> simp <;> omega
   have := all_l15 N a c hc K hK m (i + 1) _ (by omega) hi hlen
   simp only [Int.natCast_add, Int.cast_ofNat_Int] at this
   rw [this]
   rw [pick_cons, List.append_assoc]
  ·rw [show (decide ((i : Int) < (c.More.length : Int))) = false from decide_eq_false (by omega), List.drop_eq_nil_of_le (by omega)]
   simp [pick]
theorem all_l6 (N : Nat) (hN : 2000 < N) (a : Bool) (c : DCell) (hS : c.Slots.length ≤ 1000) (hc : c.More.length ≤ 1000) : ∀ (m i : Nat) (p : List Int), c.Slots.length < m + i → i ≤ c.Slots.length → p.length ≤ i → cell_all_c1_l6 N (liftR (fun x st => cell_addresses_b8 N a x st)) c m (i : Int) (none, p) = some (none, (p ++ pick (fun _ v => (true == a) && hasB v) i (c.Slots.drop i)) ++ pick (fun i v => (strongB c.Kind i == a) && hasB v) 0 c.More)
 | 0, i, p, h, h2, _ => by omega
 | m + 1, i, p, h, h2, h3 => by
  rw [cell_all_c1_l6_s]
  by_cases hi : i < c.Slots.length
  ·rw [show (decide ((i : Int) < (c.Slots.length : Int))) = true from decide_eq_true (by omega), getE_nat, List.getElem?_eq_getElem hi, List.drop_eq_getElem_cons hi]
   simp only [cond_true, Option.bind_some]
   rw [body_spec N a _ _ _ (by omega)]
   rw [Option.bind_some]
   dsimp only
   rw [Bool.not_true, cond_false]
   rw [req_pos (by unfold in64; omega)]
   have hlen : (p ++ (bif (true == a) && hasB c.Slots[i] then [c.Slots[i].N] else [])).length ≤ (i + 1) := by
    cases (true == a) && hasB c.Slots[i] <;> simp <;> omega
   have := all_l6 N hN a c hS hc m (i + 1) _ (by omega) hi hlen
   simp only [Int.natCast_add, Int.cast_ofNat_Int] at this
   rw [this]
   rw [pick_cons, List.append_assoc p]
  ·rw [show (decide ((i : Int) < (c.Slots.length : Int))) = false from decide_eq_false (by omega), List.drop_eq_nil_of_le (by omega)]
   simp only [cond_false, cell_all_c1_j4]
   have := all_l15 N a c hc p.length (by omega) N 0 p (by omega) (by omega) (by omega)
   simp only [Int.natCast_zero, Int.cast_ofNat_Int] at this
   rw [this]
   simp [pick]
theorem addresses_spec (N : Nat) (hN : 2000 < N) (a : Bool) (c : DCell) (hS : c.Slots.length ≤ 1000) (hc : c.More.length ≤ 1000) : cell_addresses_O N c a = some (pick (fun _ v => (true == a) && hasB v) 0 c.Slots ++ pick (fun i v => (strongB c.Kind i == a) && hasB v) 0 c.More) := by
 unfold cell_addresses_O cell_all_O cell_all_c1_O
 have := all_l6 N hN a c hS hc N 0 [] (by omega) (by omega) (by simp)
 simp only [Int.natCast_zero, Int.cast_ofNat_Int] at this
 rw [Option.bind_some, this, Option.bind_some]
 show some _ = some _
 simp
def weakB (k : Int) (i : Nat) : Bool := decide (k = 8) || (decide (k = 10) && (decide (0 < (i : Int)) && decide ((((i : Int) - 1).tmod 4).tmod 2 = 0)))
theorem weak_spec (N : Nat) (k : Int) (i : Nat) (hi : i ≤ 5000) : r15_weak_O N k (i : Int) = some (weakB k i) := by
 unfold r15_weak_O weakB
 by_cases h1 : k = 8
 ·simp [h1]
 ·by_cases h2 : k = 10
  ·by_cases h3 : (0 : Int) < i
   ·subst h2; simp only [h3, decide_true, ct, bs, r64 (a := (i : Int) - 1) (by omega) (by omega), show decide ((10 : Int) = 8) = false from rfl, cf, Bool.false_or, Bool.true_and]
   ·subst h2; simp only [h3, decide_true, decide_false, ct, bs, show decide ((10 : Int) = 8) = false from rfl, cf, Bool.false_or, Bool.true_and, Bool.false_and]
  ·simp [h1, h2]
theorem ref_leads_spec (N : Nat) (hN : 2000 < N) (c : DCell) (hS : c.Slots.length ≤ 1000) (hc : c.More.length ≤ 1000) : r15_Leads_O N c = some (pick (fun _ v => hasB v) 0 c.Slots ++ pick (fun i v => !weakB c.Kind i && hasB v) 0 c.More) := by
 apply Sat.eq
 unfold r15_Leads_O
 refine loop_inv (fun m i s => r15_Leads_l6 N c m s (i : Int)) c.Slots.length (fun i s => s ++ pick (fun _ v => hasB v) i (c.Slots.drop i) = pick (fun _ v => hasB v) 0 c.Slots ∧ s.length ≤ i) _ ?_ ?_ N 0 [] (by omega) (by omega) ⟨by simp, by simp⟩
 ·rintro m i s hi ⟨h1, h2⟩ k
  show Sat (r15_Leads_l6 N c (m + 1) s i) _
  rw [List.drop_eq_getElem_cons hi, pick_cons] at h1
  rw [r15_Leads_l6_s, lt_t (by omega), cond_true, getE_n hi, bs, ref_has_spec, bs]
  simp only [bs]
  cases hh : hasB c.Slots[i]
  all_goals
   simp only [hh, ct, cf, bs, List.nil_append] at h1 ⊢
   first
   |(unfold r15_Leads_j11
     rw [r64 (by omega) (by omega)]
     exact k s ⟨h1, by omega⟩)
   |(rw [rF (by simp; omega)]
     unfold r15_Leads_j11
     rw [r64 (by omega) (by omega)]
     exact k _ ⟨by rw [List.append_assoc]; exact h1, by simp; omega⟩)
 ·rintro m s ⟨h1, h2⟩
  show Sat (r15_Leads_l6 N c (m + 1) s _) _
  rw [List.drop_length] at h1
  have h1 : s = pick (fun _ v => hasB v) 0 c.Slots := by rw [← h1]; simp [pick]
  rw [r15_Leads_l6_s, lt_f (by omega), cond_false, ← h1]
  unfold r15_Leads_j4
  clear h1
  refine loop_inv (fun m i s => r15_Leads_l23 N c m s (i : Int)) c.More.length (fun i t => t ++ pick (fun i v => !weakB c.Kind i && hasB v) i (c.More.drop i) = s ++ pick (fun i v => !weakB c.Kind i && hasB v) 0 c.More ∧ t.length ≤ 1000 + i) _ ?_ ?_ N 0 s (by omega) (by omega) ⟨by simp, by omega⟩
  ·rintro m i s hi ⟨h1, h2⟩ k
   show Sat (r15_Leads_l23 N c (m + 1) s i) _
   rw [List.drop_eq_getElem_cons hi, pick_cons] at h1
   rw [r15_Leads_l23_s, lt_t (by omega), cond_true, getE_n hi, bs, ref_has_spec, bs, weak_spec _ _ _ (by omega)]
   simp only [bs]
   cases hh : hasB c.More[i] <;> cases hw : weakB c.Kind i
   all_goals
    simp only [hh, hw, Bool.and_true, Bool.and_false, nt, nf, ct, cf, bs, List.nil_append] at h1 ⊢
    first
    |(unfold r15_Leads_j27
      rw [r64 (by omega) (by omega)]
      exact k s ⟨h1, by omega⟩)
    |(rw [rF (by simp; omega)]
      unfold r15_Leads_j27
      rw [r64 (by omega) (by omega)]
      exact k _ ⟨by rw [List.append_assoc]; exact h1, by simp; omega⟩)
  ·rintro m s ⟨h1, h2⟩
   show Sat (r15_Leads_l23 N c (m + 1) s _) _
   rw [List.drop_length] at h1
   rw [r15_Leads_l23_s, lt_f (by omega), cond_false]
   exact sat_some (by rw [← h1]; simp [pick])
theorem strong_weak (k : Int) (i : Nat) : strongB k i = !weakB k i := by
 unfold strongB weakB
 by_cases h8 : k = 8
 ·subst h8; rfl
 ·by_cases h10 : k = 10
  ·subst h10
   have e0 : (i : Int).tmod 2 = (i : Int) % 2 := Int.tmod_eq_emod_of_nonneg (by omega)
   by_cases hi : (0 : Int) < i
   ·have e1 : ((i : Int) - 1).tmod 4 = ((i : Int) - 1) % 4 := Int.tmod_eq_emod_of_nonneg (by omega)
    have e2 : (((i : Int) - 1) % 4).tmod 2 = (((i : Int) - 1) % 4) % 2 := Int.tmod_eq_emod_of_nonneg (by omega)
    rw [e0, e1, e2]
    by_cases h : (i : Int) % 2 = 0
    ·have h2 : ¬ (((i : Int) - 1) % 4) % 2 = 0 := by omega
     rw [decide_eq_true h, decide_eq_false h2, decide_eq_true hi]; rfl
    ·have h2 : (((i : Int) - 1) % 4) % 2 = 0 := by omega
     rw [decide_eq_false h, decide_eq_true h2, decide_eq_true hi]; rfl
   ·have : i = 0 := by omega
    subst this; rfl
  ·simp [h8, h10]
def leadsL (c : DCell) : List Int := pick (fun _ v => hasB v) 0 c.Slots ++ pick (fun i v => !weakB c.Kind i && hasB v) 0 c.More
theorem leads_prog (N : Nat) (hN : 2000 < N) (c : DCell) (hS : c.Slots.length ≤ 1000) (hc : c.More.length ≤ 1000) : cell_Leads_O N c = some (leadsL c) := by
 unfold cell_Leads_O leadsL
 rw [addresses_spec N hN true c hS hc, bs]
 have e1 : (fun (_ : Nat) (v : DValue) => (true == true) && hasB v) = fun _ v => hasB v := by funext i v; rfl
 have e2 : (fun (i : Nat) (v : DValue) => (strongB c.Kind i == true) && hasB v) = fun i v => !weakB c.Kind i && hasB v := by funext i v; rw [strong_weak]; cases weakB c.Kind i <;> rfl
 rw [e1, e2]
theorem leads_ref (N : Nat) (hN : 2000 < N) (c : DCell) (hS : c.Slots.length ≤ 1000) (hc : c.More.length ≤ 1000) : r15_Leads_O N c = some (leadsL c) := ref_leads_spec N hN c hS hc
theorem leadsL_len (c : DCell) : (leadsL c).length ≤ c.Slots.length + c.More.length := by
 unfold leadsL
 have h1 := pick_len (fun _ v => hasB v) 0 c.Slots
 have h2 := pick_len (fun i v => !weakB c.Kind i && hasB v) 0 c.More
 rw [List.length_append]; omega
theorem pick_mem {f : Nat → DValue → Bool} {x : Int} : ∀ {i : Nat} {l : List DValue}, x ∈ pick f i l → ∃ v ∈ l, v.N = x
 | _, [], h => by cases h
 | i, v :: l, h => by
  rw [pick_cons, List.mem_append] at h
  rcases h with h | h
  ·cases hf : f i v
   ·rw [hf] at h; cases h
   ·rw [hf] at h; exact ⟨v, by simp, (List.mem_singleton.1 h).symm⟩
  ·obtain ⟨w, h1, h2⟩ := pick_mem h
   exact ⟨w, by simp [h1], h2⟩
theorem leadsL_mem {c : DCell} {x : Int} (h : x ∈ leadsL c) : ∃ v ∈ c.Slots ++ c.More, v.N = x := by
 unfold leadsL at h
 rcases List.mem_append.1 h with h | h
 ·obtain ⟨v, h1, h2⟩ := pick_mem h; exact ⟨v, by simp [h1], h2⟩
 ·obtain ⟨v, h1, h2⟩ := pick_mem h; exact ⟨v, by simp [h1], h2⟩
end Go.Proofs.YtmbaennilhdieaaGreat
/- Plain: cells at addresses, on both sides. -/
namespace Go.Proofs.YtmbaennilhdieaaGreat
open Go.RowKit
def zeroC : DCell := ⟨0, 0, 0, 0, [], []⟩
def cellAt (m : DMemory) (a : Int) : Option DCell := if a < 1 then none else if a % 2 = 1 then m.Young[((a - 1) / 2).toNat]? else m.Old[((a - 2) / 2).toNat]?
def hasM (m : DMemory) (a : Int) : Bool := (cellAt m a).isSome
def atM (m : DMemory) (a : Int) : DCell := (cellAt m a).getD zeroC
structure Small (m : DMemory) (roots : List DValue) : Prop where
 young : m.Young.length ≤ 600
 old : m.Old.length ≤ 600
 roots : roots.length ≤ 600
 cells : ∀ c ∈ m.Young ++ m.Old, c.Slots.length ≤ 600 ∧ c.More.length ≤ 600
theorem cellAt_mem {m : DMemory} {a : Int} {c : DCell} (h : cellAt m a = some c) : c ∈ m.Young ++ m.Old := by
 unfold cellAt at h
 split at h
 ·cases h
 ·split at h
  ·exact List.mem_append_left _ (List.mem_of_getElem? h)
  ·exact List.mem_append_right _ (List.mem_of_getElem? h)
theorem Small.at_ {m : DMemory} {roots : List DValue} (h : Small m roots) (a : Int) : (atM m a).Slots.length ≤ 600 ∧ (atM m a).More.length ≤ 600 := by
 unfold atM
 cases hc : cellAt m a with
 | none => exact ⟨by simp [zeroC], by simp [zeroC]⟩
 | some c => exact h.cells c (cellAt_mem hc)
theorem hasM_pos {m : DMemory} {a : Int} (h : hasM m a = true) : 0 < a := by
 unfold hasM cellAt at h
 split at h
 ·cases h
 ·omega
theorem hasM_le {m : DMemory} {roots : List DValue} (hs : Small m roots) {a : Int} (h : hasM m a = true) : a ≤ 1200 := by
 have h1 := hs.young; have h2 := hs.old
 unfold hasM cellAt at h
 split at h
 ·cases h
 ·split at h
  ·have := (List.getElem?_eq_some_iff.1 (Option.isSome_iff_exists.1 h).choose_spec).1
   omega
  ·have := (List.getElem?_eq_some_iff.1 (Option.isSome_iff_exists.1 h).choose_spec).1
   omega
theorem tdiv2 {a : Int} (h : 0 ≤ a) : a.tdiv 2 = a / 2 := Int.tdiv_eq_ediv_of_nonneg h
theorem tmod2 {a : Int} (h : 0 ≤ a) : a.tmod 2 = a % 2 := Int.tmod_eq_emod_of_nonneg h
theorem isSome_lt {α : Type} (l : List α) (i : Nat) : (l[i]?).isSome = decide ((i : Int) < (l.length : Int)) := by
 by_cases h : i < l.length
 ·rw [List.getElem?_eq_getElem h, decide_eq_true (by omega)]; rfl
 ·rw [List.getElem?_eq_none (by omega), decide_eq_false (by omega)]; rfl
theorem addr_cases (m : DMemory) (a : Int) : (a < 1 ∧ cellAt m a = none) ∨ (∃ k : Nat, a = 2 * (k : Int) + 1 ∧ cellAt m a = m.Young[k]?) ∨ (∃ k : Nat, a = 2 * (k : Int) + 2 ∧ cellAt m a = m.Old[k]?) := by
 by_cases h : a < 1
 ·exact .inl ⟨h, by unfold cellAt; rw [if_pos h]⟩
 ·by_cases h2 : a % 2 = 1
  ·refine .inr (.inl ⟨((a - 1) / 2).toNat, by omega, ?_⟩)
   unfold cellAt; rw [if_neg h, if_pos h2]
  ·refine .inr (.inr ⟨((a - 2) / 2).toNat, by omega, ?_⟩)
   unfold cellAt; rw [if_neg h, if_neg h2]
theorem tdiv_in64 {a : Int} (h : in64 a) : -4611686018427387904 ≤ a.tdiv 2 ∧ a.tdiv 2 ≤ 4611686018427387904 := by
 unfold in64 at h
 by_cases h0 : 0 ≤ a
 ·rw [tdiv2 h0]; omega
 ·have h1 : (-a).tdiv 2 = -(a.tdiv 2) := Int.neg_tdiv a 2
  rw [tdiv2 (by omega)] at h1
  omega
theorem place_spec (N : Nat) (m : DMemory) (a : Int) (h : in64 a) : Sat (reach_place_O N m a) fun r => r.2.2 = hasM m a ∧ (hasM m a = true → getE r.1 r.2.1 = cellAt m a) := by
 have hd := tdiv_in64 h
 unfold reach_place_O
 rw [r64 (by omega) (by omega)]
 unfold reach_place_j5 hasM
 rcases addr_cases m a with ⟨h1, h2⟩ | ⟨k, h1, h2⟩ | ⟨k, h1, h2⟩
 ·rw [h2]
  refine sat_dec (fun _ => ?_) fun _ => ?_
  ·rw [r64 (by omega) (by omega), r64 (by omega) (by omega), lt_f (a := 0) (b := a) (by omega), cf, bs]
   exact sat_some ⟨rfl, fun h => by cases h⟩
  ·rw [lt_f (a := 0) (b := a) (by omega), cf, bs]
   exact sat_some ⟨rfl, fun h => by cases h⟩
 ·subst h1
  rw [h2, tmod2 (by omega), tdiv2 (by omega), eq_f (by omega), cf, lt_t (by omega), ct, bs, show (2 * (k : Int) + 1) / 2 = k by omega]
  exact sat_some ⟨(isSome_lt _ _).symm, fun _ => getE_nat _ _⟩
 ·subst h1
  rw [h2, tmod2 (by omega), tdiv2 (by omega), eq_t (by omega), ct, lt_t (by omega), ct, bs, show (2 * (k : Int) + 2) / 2 - 1 = k by omega]
  rw [r64 (by omega) (by omega), r64 (by omega) (by omega)]
  exact sat_some ⟨(isSome_lt _ _).symm, fun _ => getE_nat _ _⟩
theorem has_prog (N : Nat) (m : DMemory) (a : Int) (h : in64 a) : reach_Has_O N m a = some (hasM m a) := by
 obtain ⟨r, h1, h2, -⟩ := place_spec N m a h
 unfold reach_Has_O
 rw [h1, bs, h2]
theorem copy_spec (N : Nat) (c : DCell) (h : c.Slots.length ≤ 600 ∧ c.More.length ≤ 600) : cell_Copy_O N c = some c := by
 unfold cell_Copy_O slices_Clone_O
 rw [rF (by simp; omega), bs, rF (by simp; omega), bs]
 rfl
theorem at_prog (N : Nat) {m : DMemory} {roots : List DValue} (hs : Small m roots) (a : Int) (h : in64 a) : reach_At_O N m a = some (atM m a) := by
 obtain ⟨r, h1, h2, h3⟩ := place_spec N m a h
 unfold reach_At_O atM
 rw [h1, bs, h2]
 unfold hasM at *
 cases hc : cellAt m a with
 | none => rfl
 | some c =>
  have h4 := h3 (by rw [hc]; rfl)
  rw [hc] at h4
  have h5 := copy_spec N c (hs.cells c (cellAt_mem hc))
  simp only [Option.isSome_some, nt, cf, h4, bs, h5]
  rfl
theorem has_ref (N : Nat) (m : DMemory) (a : Int) (h : in64 a) : r19_Has_O N m a = some (hasM m a) := by
 unfold in64 at h
 unfold r19_Has_O hasM
 rcases addr_cases m a with ⟨h1, h2⟩ | ⟨k, h1, h2⟩ | ⟨k, h1, h2⟩
 ·rw [h2, lt_t h1]; rfl
 ·subst h1
  rw [h2, lt_f (by omega), cf, tmod2 (by omega), eq_t (by omega), ct, tdiv2 (by omega), show (2 * (k : Int) + 1 - 1) / 2 = k by omega, isSome_lt]
  rw [req_t (by unfold in64; omega), req_t (by unfold in64; omega)]
 ·subst h1
  rw [h2, lt_f (by omega), cf, tmod2 (by omega), eq_f (by omega), cf, tdiv2 (by omega), show (2 * (k : Int) + 2 - 2) / 2 = k by omega, isSome_lt]
  rw [req_t (by unfold in64; omega), req_t (by unfold in64; omega)]
theorem at_ref (N : Nat) (m : DMemory) (a : Int) (h : in64 a) : r19_At_O N m a = some (atM m a) := by
 have hh := has_ref N m a h
 unfold in64 at h
 unfold r19_At_O atM
 rw [hh, bs]
 unfold hasM
 rcases addr_cases m a with ⟨h1, h2⟩ | ⟨k, h1, h2⟩ | ⟨k, h1, h2⟩
 ·rw [h2]; rfl
 ·cases hc : m.Young[k]? with
  | none => rw [h2, hc]; rfl
  | some c =>
   rw [h2, hc]
   subst h1
   simp only [Option.isSome_some, nt, cf]
   rw [tmod2 (by omega), eq_t (by omega), ct, tdiv2 (by omega), show (2 * (k : Int) + 1 - 1) / 2 = k by omega, getE_nat, hc, bs]
   rw [req_t (by unfold in64; omega), req_t (by unfold in64; omega)]
   rfl
 ·cases hc : m.Old[k]? with
  | none => rw [h2, hc]; rfl
  | some c =>
   rw [h2, hc]
   subst h1
   simp only [Option.isSome_some, nt, cf]
   rw [tmod2 (by omega), eq_f (by omega), cf, tdiv2 (by omega), show (2 * (k : Int) + 2 - 2) / 2 = k by omega, getE_nat, hc, bs]
   rw [req_t (by unfold in64; omega), req_t (by unfold in64; omega)]
   rfl
end Go.Proofs.YtmbaennilhdieaaGreat
/- Plain: a valid cell, on both sides. -/
namespace Go.Proofs.YtmbaennilhdieaaGreat
open Go.RowKit
theorem has_props (N : Nat) (k : Int) : cell_has_O N k = r15_Props_O N k := by
 unfold cell_has_O r15_Props_O cell_has_j1
 by_cases h1 : k = 1
 ·subst h1; rfl
 by_cases h2 : k = 2
 ·subst h2; rfl
 by_cases h3 : k = 3
 ·subst h3; rfl
 by_cases h6 : k = 6
 ·subst h6; rfl
 by_cases h8 : k = 8
 ·subst h8; rfl
 by_cases h9 : k = 9
 ·subst h9; rfl
 by_cases h10 : k = 10
 ·subst h10; rfl
 rw [eq_f h1, eq_f h2, eq_f h3, eq_f h6, eq_f h8, eq_f h9, eq_f h10]; rfl
theorem slots_eq (N : Nat) (c : DCell) : cell_slotsRight_O N c = r15_slots_O N c := by
 unfold cell_slotsRight_O r15_slots_O
 rw [has_props]; rfl
theorem may_eq (N : Nat) (v : DValue) : cell_may_O N v = r15_May_O N v := by
 unfold cell_may_O r15_May_O cell_may_j9
 by_cases h5 : v.Kind = 5
 ·rw [h5]; rfl
 rw [eq_f h5]
 simp only [cf]
 by_cases hr : v.Kind < 0 ∨ 9 < v.Kind
 ·have h2 : v.Kind ≠ 2 := by omega
  have h3 : v.Kind ≠ 3 := by omega
  have h6 : v.Kind ≠ 6 := by omega
  have h7 : v.Kind ≠ 7 := by omega
  have h9 : v.Kind ≠ 9 := by omega
  have e1 : ((bif decide (v.Kind < 0) then (some true) else (some (decide (9 < v.Kind)))) : Option Bool) = some true := by
   rcases hr with h | h
   ·rw [lt_t h]; rfl
   ·rw [lt_t (a := 9) h]; cases decide (v.Kind < 0) <;> rfl
  rw [e1, bs, ct, eq_f h2, eq_f h3, eq_f h6, eq_f h7, eq_f h9]
  simp only [cf]
  have e2 : (((bif decide (v.N = 0) then (some (decide (0 ≤ v.Kind))) else (some false)).bind fun b14 => (bif b14 then (some (decide (v.Kind ≤ 9))) else (some false)).bind fun b15 => some b15) : Option Bool) = some false := by
   cases decide (v.N = 0)
   ·rfl
   ·rcases hr with h | h
    ·rw [le_f (a := 0) (b := v.Kind) (by omega)]; rfl
    ·rw [le_f (a := v.Kind) (b := 9) (by omega)]; cases decide (0 ≤ v.Kind) <;> rfl
  rw [e2]
  cases s : (v.S.toList == (⟨#[]⟩ : ByteArray).toList) <;> rfl
 ·have e1 : ((bif decide (v.Kind < 0) then (some true) else (some (decide (9 < v.Kind)))) : Option Bool) = some false := by
   rw [lt_f (a := v.Kind) (b := 0) (by omega), lt_f (a := 9) (b := v.Kind) (by omega)]; rfl
  rw [e1, bs, cf]
  cases hs : (v.S.toList == (⟨#[]⟩ : ByteArray).toList)
  ·rfl
  ·simp only [nt, cf]
   by_cases h2 : v.Kind = 2
   ·rw [h2]; rfl
   rw [eq_f h2]; simp only [cf]
   by_cases h3 : v.Kind = 3
   ·rw [h3]; rfl
   rw [eq_f h3]; simp only [cf]
   by_cases h6 : v.Kind = 6
   ·rw [h6]; rfl
   rw [eq_f h6]; simp only [cf]
   by_cases h7 : v.Kind = 7
   ·rw [h7]; rfl
   rw [eq_f h7]; simp only [cf]
   by_cases h9 : v.Kind = 9
   ·rw [h9]; rfl
   rw [eq_f h9, le_t (a := 0) (by omega), le_t (a := v.Kind) (by omega)]
   cases decide (v.N = 0) <;> rfl
theorem may_some (N : Nat) (v : DValue) : ∃ b, r15_May_O N v = some b := by
 unfold r15_May_O
 cases decide (v.Kind < 0) <;> cases decide (9 < v.Kind) <;> cases decide (v.Kind = 5) <;> cases decide (v.N = 0) <;> cases (v.S.toList == (⟨#[]⟩ : ByteArray).toList) <;> cases decide (v.Kind = 2) <;> cases decide (v.Kind = 3) <;> cases decide ((-9007199254740992) ≤ v.N) <;> cases decide (v.Kind = 6) <;> cases decide (v.Kind = 7) <;> cases decide (v.Kind = 9) <;> exact ⟨_, rfl⟩
theorem entries_loop (N : Nat) (k : Nat) (hk : k = 2 ∨ k = 4) (l : List DValue) (hl : l.length ≤ 1000) : ∀ (m i : Nat), l.length < m + i → i ≤ l.length → (l.length - i) % k = 0 → ∃ b, r15_entries_l5 N (k : Int) l m (i : Int) = some b ∧
  slices_Chunk_l4 N (liftR (fun x st => cell_entriesRight_b9 N (k : Int) x st)) l (k : Int) m (i : Int) (none, ()) = some (bif b then (none, ()) else (some .ret, ()))
 | 0, i, h, h2, _ => by omega
 | m + 1, i, h, h2, h3 => by
  by_cases hi : i < l.length
  ·have hik : i + k ≤ l.length := by
    rcases hk with rfl | rfl <;> omega
   have hmin : (min (k : Int) (((l.drop (i : Int).toNat).take (l.length - (i : Int).toNat)).length : Int)) = k := by
    rw [List.length_take, List.length_drop, Int.toNat_natCast]; omega
   have hto : ((i : Int) + (k : Int)).toNat = i + k := by omega
   have hx : ∀ j, j < k → getE ((l.drop i).take k) (j : Int) = l[i + j]? := fun j hj => by
    rw [getE_nat, List.getElem?_take, if_pos hj, List.getElem?_drop]
   have hk0 := hx 0 (by omega)
   have hk1 := hx 1 (by omega)
   rw [List.getElem?_eq_getElem (by omega)] at hk0 hk1
   have hl0 : getE l (i : Int) = some l[i] := getE_n hi
   have hl1 : getE l ((i : Int) + 1) = some (l[i + 1]'(by omega)) := by
    have := getE_n (xs := l) (i := i + 1) (by omega)
    simpa using this
   obtain ⟨b, hb1, hb2⟩ := entries_loop N k hk l hl m (i + k) (by omega) hik (by rcases hk with rfl | rfl <;> omega)
   simp only [Int.natCast_add] at hb1 hb2
   have fin : ∀ b', (bif b' then some false else req (in64 ((i : Int) + (k : Int))) (r15_entries_l5 N (k : Int) l m ((i : Int) + (k : Int)))) = some (bif b' then false else b) := fun b' => by
    cases b'
    ·rw [cf, r64 (by omega) (by omega), hb1]; rfl
    ·rfl
   have fin2 : ∀ b' : Bool, ((bif b' then (some (some Exit.ret, ())) else (some (none, ())) : Option (Option Exit × Unit)).map fun r => (r.1.isNone, r)) = some (!b', (bif b' then some Exit.ret else none, ())) := fun b' => by cases b' <;> rfl
   have goal : ∀ b', ((some (!b', ((bif b' then some Exit.ret else none : Option Exit), ())) : Option (Bool × (Option Exit × Unit))).bind fun y14 => bif !y14.1 then (some y14.2) else (req (in64 ((i : Int) + (k : Int))) ((slices_Chunk_l4 N (liftR (fun x st => cell_entriesRight_b9 N (k : Int) x st)) l (k : Int) m) ((i : Int) + (k : Int)) y14.2))) = some (bif (bif b' then false else b) then (none, ()) else (some .ret, ())) := fun b' => by
    cases b'
    ·rw [bs]
     simp only [nf, nt, cf]
     rw [r64 (by omega) (by omega)]
     exact hb2
    ·rfl
   have lift : ∀ (x : List DValue) (b' : Bool), cell_entriesRight_b9 N (k : Int) x () = (bif b' then (some (some Exit.ret, ())) else (some (none, ()))) → liftR (fun x st => cell_entriesRight_b9 N (k : Int) x st) x (none, ()) = some (!b', (bif b' then some Exit.ret else none, ())) := fun x b' hb => by
    unfold liftR
    simp only [hb]
    exact fin2 b'
   have key : ∃ b', ((getE l (i : Int)).bind fun x8 => (bif !decide (x8.Kind = 7) then (some true) else (req (in64 ((i : Int) + 1)) ((getE l ((i : Int) + 1)).bind fun x11 => some (decide (x11.Kind = 8))))).bind fun b9 => bif b9 then (some false) else ((bif decide ((k : Int) = 4) then (req (in64 ((i : Int) + 2)) ((getE l ((i : Int) + 2)).bind fun x15 => (r15_none_O N x15 7).bind fun y16 => (bif !y16 then (some true) else (req (in64 ((i : Int) + 3)) ((getE l ((i : Int) + 3)).bind fun x19 => (r15_num_O N x19 0 9007199254740992).bind fun y20 => some (!y20)))).bind fun b17 => some b17)) else (some false)).bind fun b13 => bif b13 then (some false) else (req (in64 ((i : Int) + (k : Int))) ((r15_entries_l5 N (k : Int) l m) ((i : Int) + (k : Int)))))) = some (bif b' then false else b) ∧ cell_entriesRight_b9 N (k : Int) ((l.drop i).take k) () = (bif b' then (some (some Exit.ret, ())) else (some (none, ()))) := by
    unfold cell_entriesRight_b9
    simp only [Int.cast_ofNat_Int, Int.natCast_zero, Int.natCast_one] at hk0 hk1
    rw [hl0, bs, r64 (a := (i : Int) + 1) (by omega) (by omega), hl1, bs]
    have hk0' : getE ((l.drop i).take k) 0 = some l[i] := hk0
    have hk1' : getE ((l.drop i).take k) 1 = some (l[i + 1]'(by omega)) := hk1
    simp only [hk0', bs, hk1']
    cases h7 : (!decide (l[i].Kind = 7))
    ·simp only [cf, bs]
     cases h8 : decide ((l[i + 1]'(by omega)).Kind = 8)
     ·simp only [cf]
      rcases hk with rfl | rfl
      ·simp only [show decide (((2 : Nat) : Int) = 4) = false from rfl, cf, bs]
       have f := fin false
       rw [cf] at f
       refine ⟨false, ?_, rfl⟩
       exact f
      ·have hk2 := hx 2 (by omega)
       have hk3 := hx 3 (by omega)
       rw [List.getElem?_eq_getElem (by omega)] at hk2 hk3
       have hk2' : getE ((l.drop i).take 4) 2 = some (l[i + 2]'(by omega)) := hk2
       have hk3' : getE ((l.drop i).take 4) 3 = some (l[i + 3]'(by omega)) := hk3
       have hl2 : getE l ((i : Int) + 2) = some (l[i + 2]'(by omega)) := by
        have := getE_n (xs := l) (i := i + 2) (by omega)
        simpa using this
       have hl3 : getE l ((i : Int) + 3) = some (l[i + 3]'(by omega)) := by
        have := getE_n (xs := l) (i := i + 3) (by omega)
        simpa using this
       simp only [show decide (((4 : Nat) : Int) = 4) = true from rfl, ct]
       rw [r64 (a := (i : Int) + 2) (by omega) (by omega), hl2, bs, hk2', bs, r64 (a := (i : Int) + 3) (by omega) (by omega), hl3, bs, hk3']
       have en : ∀ v, cell_orNone_O N v 7 = r15_none_O N v 7 := fun v => rfl
       have em : ∀ v, cell_number_O N v 0 9007199254740992 = r15_num_O N v 0 9007199254740992 := fun v => rfl
       have hn : ∃ b1, r15_none_O N (l[i + 2]'(by omega)) 7 = some b1 := by unfold r15_none_O; cases decide ((l[i + 2]'(by omega)).Kind = 0) <;> exact ⟨_, rfl⟩
       have hm : ∃ b1, r15_num_O N (l[i + 3]'(by omega)) 0 9007199254740992 = some b1 := by unfold r15_num_O; cases decide ((l[i + 3]'(by omega)).Kind = 3) <;> cases decide (0 ≤ (l[i + 3]'(by omega)).N) <;> exact ⟨_, rfl⟩
       obtain ⟨b1, hn⟩ := hn
       obtain ⟨b2, hm⟩ := hm
       simp only [bs, en, em, hn, hm]
       cases b1
       ·simp only [nf, ct, bs]
        exact ⟨true, rfl, rfl⟩
       ·simp only [nt, cf, bs]
        exact ⟨!b2, fin (!b2), by cases b2 <;> rfl⟩
     ·exact ⟨true, rfl, rfl⟩
    ·exact ⟨true, rfl, rfl⟩
   obtain ⟨b', e1, e2⟩ := key
   refine ⟨bif b' then false else b, ?_, ?_⟩
   ·rw [r15_entries_l5_s, lt_t (by omega), ct]
    exact e1
   ·rw [slices_Chunk_l4_s, lt_t (by omega), ct, hmin, req_t (show (0 : Int) ≤ (i : Int) ∧ (i : Int).toNat ≤ l.length ∧ l.length ≤ l.length from ⟨by omega, by omega, Nat.le_refl _⟩), r64 (a := (i : Int) + (k : Int)) (by omega) (by omega), r64 (a := (i : Int) + (k : Int)) (by omega) (by omega)]
    rw [req_t (show (0 : Int) ≤ (i : Int) ∧ (0 : Int) ≤ (i : Int) + (k : Int) ∧ (i : Int).toNat ≤ ((i : Int) + (k : Int)).toNat ∧ ((i : Int) + (k : Int)).toNat ≤ l.length from ⟨by omega, by omega, by omega, by omega⟩), hto, Int.toNat_natCast, show i + k - i = k by omega, lift _ b' e2]
    exact goal b'
  ·rw [r15_entries_l5_s, slices_Chunk_l4_s, lt_f (by omega), cf, cf]
   exact ⟨true, rfl, rfl⟩
theorem entries_eq (N : Nat) (hN : 2000 < N) (k : Nat) (hk : k = 2 ∨ k = 4) (l : List DValue) (hl : l.length ≤ 1000) : ∃ b, cell_entriesRight_O N l (k : Int) = some b ∧ r15_entries_O N l (k : Int) = some b ∧ (b = true → l.length % k = 0) := by
 unfold cell_entriesRight_O r15_entries_O
 have hk0 : (k : Int) ≠ 0 := by rcases hk with rfl | rfl <;> decide
 rw [req_t hk0, req_t hk0]
 have ht : (l.length : Int).tmod (k : Int) = ((l.length % k : Nat) : Int) := by
  rw [Int.tmod_eq_emod_of_nonneg (by omega)]; rfl
 rw [ht]
 by_cases h : l.length % k = 0
 ·rw [eq_t (by omega)]
  obtain ⟨b, h1, h2⟩ := entries_loop N k hk l hl N 0 (by omega) (by omega) (by simpa using h)
  have e : slices_Chunk_191_O N l (k : Int) = some () := by
   unfold slices_Chunk_191_O; rw [lt_f (by rcases hk with rfl | rfl <;> omega), cf]
  unfold slices_Chunk_O
  simp only [nt, cf, e, bs]
  have h1' : r15_entries_l5 N (k : Int) l N 0 = some b := h1
  have h2' : slices_Chunk_l4 N (liftR (fun x st => cell_entriesRight_b9 N (k : Int) x st)) l (k : Int) N 0 (none, ()) = some (bif b then (none, ()) else (some .ret, ())) := h2
  rw [h1', h2', bs]
  exact ⟨b, by cases b <;> rfl, rfl, fun _ => h⟩
 ·rw [eq_f (by omega)]
  exact ⟨false, rfl, rfl, fun h => by cases h⟩
end Go.Proofs.YtmbaennilhdieaaGreat
/- Plain: valid cells and weak maps, on both sides. -/
namespace Go.Proofs.YtmbaennilhdieaaGreat
open Go.RowKit
theorem more_eq (N : Nat) (hN : 2000 < N) (c : DCell) (hc : c.More.length ≤ 1000) : cell_moreRight_O N c.Kind c.More = r15_more_O N c := by
 obtain ⟨b2, h2, h2', -⟩ := entries_eq N hN 2 (.inl rfl) c.More hc
 obtain ⟨b4, h4, h4', -⟩ := entries_eq N hN 4 (.inr rfl) ((c.More.drop ((1 : Int).toNat)).take (c.More.length - (1 : Int).toNat)) (by rw [List.length_take, List.length_drop]; omega)
 have e2 : cell_entriesRight_O N c.More 2 = r15_entries_O N c.More 2 := h2.trans h2'.symm
 have e4 : cell_entriesRight_O N ((c.More.drop ((1 : Int).toNat)).take (c.More.length - (1 : Int).toNat)) 4 = r15_entries_O N ((c.More.drop ((1 : Int).toNat)).take (c.More.length - (1 : Int).toNat)) 4 := h4.trans h4'.symm
 unfold cell_moreRight_O r15_more_O cell_moreRight_j4 r15_more_j6
 rw [e2, e4]
 rfl
theorem may_lift (N : Nat) (c : DCell) (b : Bool) (v : DValue) : ∃ y, r15_May_O N v = some y ∧ liftR (fun x st => cell_Right_b14 N c x st) (b, v) (none, ()) = some (y, (bif y then none else some Exit.ret, ())) := by
 obtain ⟨y, hy⟩ := may_some N v
 refine ⟨y, hy, ?_⟩
 unfold liftR cell_Right_b14
 simp only [may_eq, hy, bs]
 cases y <;> rfl
theorem right_more (N : Nat) (c : DCell) (hc : c.More.length ≤ 1000) : ∀ (m i : Nat), c.More.length < m + i → i ≤ c.More.length → ∃ b, r15_Right_l20 N c m (i : Int) = (bif b then r15_Right_j19 N c else some false) ∧
  cell_all_c1_l15 N (liftR (fun x st => cell_Right_b14 N c x st)) c m (i : Int) (none, ()) = some (bif b then none else some Exit.ret, ())
 | 0, i, h, h2 => by omega
 | m + 1, i, h, h2 => by
  rw [r15_Right_l20_s, cell_all_c1_l15_s]
  by_cases hi : i < c.More.length
  ·rw [lt_t (by omega), ct, ct, getE_n hi, bs, bs]
   have hs : (bif !decide (c.Kind = 8) then ((bif !decide (c.Kind = 10) then (some true) else (some (decide ((i : Int).tmod 2 = 0)))).bind fun b22 => some b22) else (some false)) = some (strongB c.Kind i) := by
    unfold strongB; cases decide (c.Kind = 8) <;> cases decide (c.Kind = 10) <;> rfl
   obtain ⟨y, h3, h4⟩ := may_lift N c (strongB c.Kind i) c.More[i]
   rw [hs, bs, h3, h4, bs, bs]
   cases y
   ·simp only [nf, nt, ct, cf]
    exact ⟨false, cf.symm, by rw [cf]⟩
   ·obtain ⟨b, h5, h6⟩ := right_more N c hc m (i + 1) (by omega) hi
    simp only [Int.natCast_add, Int.cast_ofNat_Int] at h5 h6
    simp only [nt, cf, ct]
    rw [r64 (by omega) (by omega), r64 (by omega) (by omega)]
    exact ⟨b, h5, h6⟩
  ·rw [lt_f (by omega), cf, cf]
   exact ⟨true, ct.symm, by rw [ct]⟩
theorem right_slots (N : Nat) (hN : 2000 < N) (c : DCell) (hS : c.Slots.length ≤ 1000) (hc : c.More.length ≤ 1000) : ∀ (m i : Nat), c.Slots.length < m + i → i ≤ c.Slots.length → ∃ b, r15_Right_l12 N c m (i : Int) = (bif b then r15_Right_j19 N c else some false) ∧
  cell_all_c1_l6 N (liftR (fun x st => cell_Right_b14 N c x st)) c m (i : Int) (none, ()) = some (bif b then none else some Exit.ret, ())
 | 0, i, h, h2 => by omega
 | m + 1, i, h, h2 => by
  rw [r15_Right_l12_s, cell_all_c1_l6_s]
  by_cases hi : i < c.Slots.length
  ·rw [lt_t (by omega), ct, ct, getE_n hi, bs, bs]
   obtain ⟨y, h3, h4⟩ := may_lift N c true c.Slots[i]
   rw [h3, h4, bs, bs]
   cases y
   ·simp only [nf, nt, ct, cf]
    exact ⟨false, cf.symm, by rw [cf]⟩
   ·obtain ⟨b, h5, h6⟩ := right_slots N hN c hS hc m (i + 1) (by omega) hi
    simp only [Int.natCast_add, Int.cast_ofNat_Int] at h5 h6
    simp only [nt, cf, ct]
    rw [r64 (by omega) (by omega), r64 (by omega) (by omega)]
    exact ⟨b, h5, h6⟩
  ·rw [lt_f (by omega), cf, cf]
   exact right_more N c hc N 0 (by omega) (by omega)
theorem right_eq (N : Nat) (hN : 2000 < N) (c : DCell) (hS : c.Slots.length ≤ 1000) (hc : c.More.length ≤ 1000) : cell_Right_O N c = r15_Right_O N c := by
 unfold cell_Right_O r15_Right_O cell_all_c1_O
 have hAge : ((bif !decide (c.Age = 0) then (some (!decide (c.Age = 1))) else (some false)).bind fun b10 => some b10) = (some (decide (c.Age < 0) || decide (1 < c.Age)) : Option Bool) := by
  by_cases h0 : c.Age = 0
  ·rw [h0]; rfl
  ·by_cases h1 : c.Age = 1
   ·rw [h1]; rfl
   ·rw [eq_f h0, eq_f h1]
    by_cases h2 : c.Age < 0
    ·rw [lt_t h2]; rfl
    ·rw [lt_t (a := 1) (b := c.Age) (by omega), lt_f (a := c.Age) (by omega)]; rfl
 obtain ⟨b, h1, h2⟩ := right_slots N hN c hS hc N 0 (by omega) (by omega)
 have h1' : r15_Right_l12 N c N 0 = (bif b then r15_Right_j19 N c else some false) := h1
 have h2' : cell_all_c1_l6 N (liftR (fun x st => cell_Right_b14 N c x st)) c N 0 (none, ()) = some (bif b then none else some Exit.ret, ()) := h2
 have e : cell_all_O N c = some () := rfl
 rw [hAge, h1', h2', e]
 have tail : ((some ()).bind fun (y12 : Unit) => (some ((bif b then none else some Exit.ret : Option Exit), ())).bind fun y15 => caseX y15.1 ((cell_slotsRight_O N c).bind fun y19 => (bif y19 then ((cell_moreRight_O N c.Kind c.More).bind fun y21 => some y21) else (some false)).bind fun b20 => some b20) (some false) (fun _ => none)) = (bif b then r15_Right_j19 N c else some false) := by
  cases b
  ·rfl
  ·rw [slots_eq, more_eq N hN c hc]; rfl
 rw [tail]
 cases decide (c.Kind < 1) <;> cases decide (11 < c.Kind) <;> cases decide (c.Shape < 0) <;> cases decide (c.Flags < 0) <;> cases decide (63 < c.Flags) <;> cases decide (c.Age < 0) <;> cases decide (1 < c.Age) <;> rfl
theorem opt_bool {m : Option Bool} {x : Bool} : m = some x → (m.bind fun b => some b) = some x := fun h => by rw [h]; rfl
theorem right_some (N : Nat) (hN : 2000 < N) (c : DCell) (hS : c.Slots.length ≤ 1000) (hc : c.More.length ≤ 1000) (h8 : c.Kind = 8) : ∃ b, r15_Right_O N c = some b ∧ (b = true → c.More.length % 2 = 0) := by
 obtain ⟨b1, g1, -⟩ := right_slots N hN c hS hc N 0 (by omega) (by omega)
 have g1' : r15_Right_l12 N c N 0 = (bif b1 then r15_Right_j19 N c else some false) := g1
 obtain ⟨b2, -, h2, h3⟩ := entries_eq N hN 2 (.inl rfl) c.More hc
 have hm : r15_more_O N c = some b2 := by
  unfold r15_more_O r15_more_j6
  rw [h8, lt_f (by omega)]
  show ((r15_entries_O N c.More 2).bind fun y37 => some y37) = _
  exact opt_bool h2
 have hs : ∃ b3, r15_slots_O N c = some b3 := by
  unfold r15_slots_O
  rw [h8]
  have : r15_Props_O N 8 = some true := rfl
  rw [this, bs, ct, bs, ct]
  by_cases hl : 1 ≤ (c.Slots.length : Int)
  ·rw [le_t hl, ct, bs, getE_at (xs := c.Slots) (i := 0) (by omega) (by omega), bs]
   cases decide ((c.Slots.length : Int) ≤ 1025)
   ·exact ⟨_, rfl⟩
   ·cases decide (c.Slots[(0 : Int).toNat].Kind = 1) <;> exact ⟨_, rfl⟩
  ·rw [le_f (by omega)]; exact ⟨_, rfl⟩
 obtain ⟨b3, hs⟩ := hs
 have hj : r15_Right_j19 N c = some (b3 && b2) := by
  unfold r15_Right_j19
  rw [hs, hm]
  cases b3 <;> rfl
 unfold r15_Right_O
 rw [g1', hj]
 have fin : ∃ b, ((bif b1 then some (b3 && b2) else some false) : Option Bool) = some b ∧ (b = true → c.More.length % 2 = 0) := by
  cases b1
  ·exact ⟨false, rfl, fun h => by cases h⟩
  ·exact ⟨b3 && b2, rfl, fun h => h3 (by cases b3 <;> cases b2 <;> first | rfl | cases h)⟩
 obtain ⟨b, e1, e2⟩ := fin
 rw [e1]
 have ff : ∃ b', (some false : Option Bool) = some b' ∧ (b' = true → c.More.length % 2 = 0) := ⟨false, rfl, fun h => by cases h⟩
 cases decide (c.Kind < 1) <;> cases decide (11 < c.Kind) <;> cases decide (c.Shape < 0) <;> cases decide (c.Flags < 0) <;> cases decide (63 < c.Flags) <;> cases decide (c.Age < 0) <;> cases decide (1 < c.Age) <;> first | exact ff | exact ⟨b, rfl, e2⟩
def isWM (N : Nat) (c : DCell) : Bool := decide (c.Kind = 8) && (r15_Right_O N c).getD false
theorem is_ref (N : Nat) (hN : 2000 < N) (c : DCell) (hS : c.Slots.length ≤ 1000) (hc : c.More.length ≤ 1000) : r17_Is_O N c = some (isWM N c) ∧ weak_is_O N c = some (isWM N c) ∧ (isWM N c = true → c.More.length % 2 = 0) := by
 unfold r17_Is_O weak_is_O isWM
 rw [right_eq N hN c hS hc]
 by_cases h8 : c.Kind = 8
 ·obtain ⟨b, h1, h2⟩ := right_some N hN c hS hc h8
  rw [h1, h8]
  exact ⟨rfl, rfl, h2⟩
 ·rw [eq_f h8]
  exact ⟨rfl, rfl, fun h => by cases h⟩
end Go.Proofs.YtmbaennilhdieaaGreat
/- Plain: every cell has an answer whether it is valid; what a valid registry holds. -/
namespace Go.Proofs.YtmbaennilhdieaaGreat
open Go.RowKit
abbrev Tot {ρ : Type} (m : Option ρ) : Prop := Sat m fun _ => True
theorem tot_some {ρ : Type} (x : ρ) : Tot (some x) := sat_some trivial
theorem tot_bif {ρ : Type} {b : Bool} {x y : Option ρ} (hx : b = true → Tot x) (hy : b = false → Tot y) : Tot (bif b then x else y) := sat_cond hx hy
theorem num_tot (N : Nat) (v : DValue) (a b : Int) : Tot (r15_num_O N v a b) := by
 unfold r15_num_O
 refine Sat.bind (P := fun _ => True) (tot_bif (fun _ => tot_some _) fun _ => tot_some _) fun x _ => Sat.bind (P := fun _ => True) (tot_bif (fun _ => tot_some _) fun _ => tot_some _) fun y _ => tot_some _
theorem none_tot (N : Nat) (v : DValue) (a : Int) : Tot (r15_none_O N v a) := by
 unfold r15_none_O
 exact Sat.bind (P := fun _ => True) (tot_bif (fun _ => tot_some _) fun _ => tot_some _) fun x _ => tot_some _
theorem tot_and {c : Bool} {m : Option Bool} (h : c = true → Tot m) : Tot (bif c then m else some false) := tot_bif h fun _ => tot_some _
theorem tot_at {l : List DValue} {i : Nat} {f : DValue → Option Bool} (hi : i < l.length) (h : ∀ v, Tot (f v)) : Tot ((getE l (i : Int)).bind f) := by
 rw [getE_n hi, bs]; exact h _
theorem tot_bind {m : Option Bool} {f : Bool → Option Bool} (h : Tot m) (k : ∀ b, Tot (f b)) : Tot (m.bind f) := Sat.bind h fun b _ => k b
theorem tot_bindP {m : Option Bool} {p : Prop} {f : Bool → Option Bool} (h : Sat m fun b => b = true → p) (k : ∀ b, (b = true → p) → Tot (f b)) : Tot (m.bind f) := Sat.bind h k
theorem slots_tot (N : Nat) (c : DCell) : Tot (r15_slots_O N c) := by
 unfold r15_slots_O
 have hp : Tot (r15_Props_O N c.Kind) := by
  unfold r15_Props_O
  iterate 6 refine tot_bind (tot_bif (fun _ => tot_some _) fun _ => tot_some _) fun _ => ?_
  exact tot_some _
 refine tot_bind hp fun y => tot_bind (tot_bif (fun _ => tot_some _) fun _ => tot_bind (tot_bif (fun _ => tot_some _) fun _ => tot_some _) fun _ => tot_some _) fun b => ?_
 refine tot_bif (fun _ => ?_) fun _ => ?_
 ·refine tot_bindP (p := 0 < c.Slots.length) (sat_dec (fun h => sat_some fun _ => by omega) fun _ => sat_some fun h => by cases h) fun b hb => tot_bind (tot_and fun h => ?_) fun _ => tot_some _
  have h0 := hb h
  refine tot_at (i := 0) h0 fun v => tot_bind (tot_bif (fun _ => tot_some _) fun _ => tot_at (i := 0) h0 fun _ => tot_some _) fun _ => tot_some _
 ·refine tot_bif (fun _ => tot_some _) fun _ => tot_bind (tot_bif (fun _ => tot_some _) fun _ => tot_some _) fun _ => tot_bif (fun _ => tot_some _) fun _ => sat_cond (fun _ => ?_) fun _ => tot_some _
  refine tot_bindP (p := 1 < c.Slots.length) (sat_dec (fun h => ?_) fun _ => sat_some fun h => by cases h) fun b hb => tot_bind (tot_and fun h => ?_) fun _ => tot_some _
  ·rw [show ((0 : Int)) = ((0 : Nat) : Int) from rfl, getE_n (by omega), bs]
   obtain ⟨x, hx, -⟩ := none_tot N c.Slots[0] 7
   rw [hx, bs]; exact sat_some fun _ => by omega
  ·refine tot_at (i := 1) (hb h) fun v => tot_bind (none_tot N v 7) fun _ => tot_some _
theorem at_tot {l : List DValue} {i : Nat} {m : DValue → Option Bool} (hi : i < l.length) (h : ∀ v, Tot (m v)) {p : Prop} (hp : p) : Sat ((getE l (i : Int)).bind fun x => (m x).bind fun y => some y) fun b => b = true → p := by
 rw [getE_n hi, bs]
 obtain ⟨x, hx, -⟩ := h l[i]
 rw [hx, bs]; exact sat_some fun _ => hp
def MoreOk (c : DCell) : Prop := (c.Kind = 8 → c.More.length % 2 = 0) ∧ (c.Kind = 10 → 1 ≤ c.More.length ∧ (c.More.length - 1) % 4 = 0)
theorem more_tot (N : Nat) (hN : 2000 < N) (c : DCell) (hc : c.More.length ≤ 1000) : Sat (r15_more_O N c) fun b => b = true → MoreOk c := by
 have j6 : ∀ p, (p = true → c.Kind = 1 ∨ c.Kind = 5) → Sat (r15_more_j6 N c p) fun b => b = true → MoreOk c := by
  intro p hp
  have other : ∀ {m : Option Bool}, c.Kind ≠ 8 → c.Kind ≠ 10 → Tot m → Sat m fun b => b = true → MoreOk c := fun h8 h10 h => h.mono fun _ _ _ => ⟨fun e => absurd e h8, fun e => absurd e h10⟩
  unfold r15_more_j6
  refine sat_cond (fun h => other (by rcases hp h with e | e <;> omega) (by rcases hp h with e | e <;> omega) (tot_some _)) fun _ => ?_
  refine sat_dec (fun hk => other (by omega) (by omega) ?_) fun _ => ?_
  ·refine tot_bindP (p := 1 < c.More.length) (sat_dec (fun h => at_tot (i := 0) (by omega) (fun v => num_tot N v _ _) (by omega)) fun _ => sat_some fun h => by cases h) fun b hb => tot_bind (tot_and fun h => tot_at (i := 1) (hb h) fun v => tot_bind (none_tot N v 9) fun _ => tot_some _) fun _ => tot_some _
  refine sat_dec (fun hk => other (by omega) (by omega) ?_) fun _ => ?_
  ·refine tot_bindP (p := 0 < c.More.length) (sat_dec (fun h => sat_some fun _ => by omega) fun _ => sat_some fun h => by cases h) fun b hb => tot_bind (tot_and fun h => tot_at (i := 0) (hb h) fun v => tot_bind (none_tot N v 9) fun _ => tot_some _) fun _ => tot_some _
  refine sat_dec (fun hk => other (by omega) (by omega) ?_) fun _ => ?_
  ·refine tot_bindP (p := 1 < c.More.length) (sat_dec (fun h => at_tot (i := 0) (by omega) (fun v => num_tot N v _ _) (by omega)) fun _ => sat_some fun h => by cases h) fun b hb => tot_bind (tot_and fun h => tot_at (i := 1) (hb h) fun v => tot_bind (none_tot N v 9) fun _ => tot_some _) fun _ => tot_some _
  refine sat_dec (fun hk => other (by omega) (by omega) ?_) fun _ => ?_
  ·refine tot_bindP (p := 3 < c.More.length) (sat_dec (fun h => at_tot (i := 2) (by omega) (fun v => num_tot N v _ _) (by omega)) fun _ => sat_some fun h => by cases h) fun b hb => tot_bind (tot_and fun h => tot_at (i := 3) (hb h) fun v => tot_bind (num_tot N v _ _) fun _ => tot_some _) fun _ => tot_some _
  refine sat_dec (fun hk => ?_) fun hk8 => ?_
  ·obtain ⟨b, -, h2, h3⟩ := entries_eq N hN 2 (.inl rfl) c.More hc
   have h2' : r15_entries_O N c.More 2 = some b := h2
   rw [h2', bs]
   exact sat_some fun hb => ⟨fun _ => h3 hb, fun e => absurd e (by omega)⟩
  refine sat_dec (fun hk => ?_) fun hk10 => ?_
  ·refine Sat.bind (P := fun b => b = true → 1 ≤ c.More.length) (sat_dec (fun h => ?_) fun _ => sat_some fun h => by cases h) fun b hb => ?_
   ·rw [show ((0 : Int)) = ((0 : Nat) : Int) from rfl, getE_n (by omega), bs]; exact sat_some fun _ => by omega
   ·refine Sat.bind (P := fun b => b = true → MoreOk c) (sat_cond (fun h => ?_) fun _ => sat_some fun h => by cases h) fun b' hb' => sat_some hb'
    have h1 := hb h
    rw [req_pos ⟨by omega, by show (1 : Int).toNat ≤ _; exact h1, Nat.le_refl _⟩]
    have hl : ((c.More.drop ((1 : Int).toNat)).take (c.More.length - (1 : Int).toNat)).length = c.More.length - 1 := by
     rw [List.length_take, List.length_drop]; show min (c.More.length - 1) (c.More.length - 1) = _; omega
    obtain ⟨b2, -, h2, h3⟩ := entries_eq N hN 4 (.inr rfl) ((c.More.drop ((1 : Int).toNat)).take (c.More.length - (1 : Int).toNat)) (by rw [hl]; omega)
    have h2' : r15_entries_O N ((c.More.drop ((1 : Int).toNat)).take (c.More.length - (1 : Int).toNat)) 4 = some b2 := h2
    rw [h2', bs]
    exact sat_some fun hb2 => ⟨fun e => absurd e (by omega), fun _ => ⟨h1, by have := h3 hb2; rw [hl] at this; exact this⟩⟩
  refine sat_dec (fun hk => other (by omega) (by omega) ?_) fun _ => other hk8 hk10 (tot_some _)
  refine tot_bind ?_ fun _ => tot_some _
  exact tot_bif (fun h => tot_at (i := 0) (by have := of_decide_eq_true h; omega) fun v => tot_bind (num_tot N v _ _) fun _ => tot_some _) fun _ => tot_some _
 unfold r15_more_O
 refine sat_dec (fun _ => sat_some fun h => by cases h) fun _ => sat_dec (fun hk => sat_some fun _ => ⟨fun e => absurd e (by omega), fun e => absurd e (by omega)⟩) fun _ => sat_dec (fun hk => j6 _ fun _ => .inl hk) fun _ => j6 _ fun h => .inr (of_decide_eq_true h)
theorem right_tot (N : Nat) (hN : 2000 < N) (c : DCell) (hS : c.Slots.length ≤ 1000) (hc : c.More.length ≤ 1000) : Sat (r15_Right_O N c) fun b => b = true → MoreOk c := by
 obtain ⟨b1, g1, -⟩ := right_slots N hN c hS hc N 0 (by omega) (by omega)
 have g1' : r15_Right_l12 N c N 0 = (bif b1 then r15_Right_j19 N c else some false) := g1
 have hj : Sat (r15_Right_j19 N c) fun b => b = true → MoreOk c := by
  unfold r15_Right_j19
  refine Sat.bind (slots_tot N c) fun y _ => ?_
  refine Sat.bind (P := fun b => b = true → MoreOk c) (sat_cond (fun _ => Sat.bind (more_tot N hN c hc) fun _ h => sat_some h) fun _ => sat_some fun h => by cases h) fun _ h => sat_some h
 unfold r15_Right_O
 rw [g1']
 iterate 6 refine Sat.bind (P := fun _ => True) (tot_bif (fun _ => tot_some _) fun _ => tot_some _) fun _ _ => ?_
 refine sat_cond (fun _ => sat_some fun h => by cases h) fun _ => sat_cond (fun _ => hj) fun _ => sat_some fun h => by cases h
end Go.Proofs.YtmbaennilhdieaaGreat
/- Plain tools for translated loops: all, folds, equal lists. Over any program. -/
namespace Go.Proofs.YtmbaennilhdieaaGreat
open Go.RowKit
theorem loop_allk {α ρ : Type} (L : Nat → Int → Option ρ) (l : List α) (p : α → Bool) (bad k : Option ρ)
  (step : ∀ m (i : Nat) (h : i < l.length), L (m + 1) (i : Int) = bif p l[i] then L m ((i : Int) + 1) else bad)
  (fin : ∀ m, L (m + 1) (l.length : Int) = k) (N : Nat) (hN : l.length < N) : L N 0 = bif l.all p then k else bad := by
 have key : ∀ m i : Nat, l.length < m + i → i ≤ l.length → L m (i : Int) = bif (l.drop i).all p then k else bad := by
  intro m
  induction m with
  | zero => intro i h1 h2; omega
  | succ m ih =>
   intro i h1 h2
   by_cases hi : i < l.length
   ·rw [step m i hi, List.drop_eq_getElem_cons hi, List.all_cons]
    have h3 := ih (i + 1) (by omega) hi
    rw [show (((i + 1 : Nat)) : Int) = (i : Int) + 1 by omega] at h3
    rw [h3]
    cases p l[i] <;> rfl
   ·have e : i = l.length := by omega
    subst e
    rw [fin, List.drop_length]; rfl
 have := key N 0 (by omega) (by omega)
 simpa using this
theorem loop_all {α : Type} (L : Nat → Int → Option Bool) (l : List α) (p : α → Bool)
  (step : ∀ m (i : Nat) (h : i < l.length), L (m + 1) (i : Int) = bif p l[i] then L m ((i : Int) + 1) else some false)
  (fin : ∀ m, L (m + 1) (l.length : Int) = some true) (N : Nat) (hN : l.length < N) : L N 0 = some (l.all p) := by
 rw [loop_allk L l p _ _ step fin N hN]; cases l.all p <;> rfl
theorem all_map {α β : Type} (f : α → β) (p : β → Bool) (l : List α) : (l.map f).all p = l.all fun x => p (f x) := by rw [List.all_map]; rfl
theorem all_filter {α : Type} (q p : α → Bool) : ∀ l : List α, (l.filter q).all p = l.all fun x => !q x || p x
 | [] => rfl
 | x :: l => by
  rw [List.filter_cons, List.all_cons, ← all_filter q p l]
  cases h : q x <;> simp
def upR {α β : Type} [DecidableEq α] (a : α) (b : β) : List (α × β) → List (α × β)
 | [] => [(a, b)]
 | p :: l => if p.1 = a then (a, b) :: l else p :: upR a b l
theorem upL_upR {α β : Type} [DecidableEq α] (L : List (α × β)) (a : α) (b : β) : upL L a b = upR a b L := by
 have key : ∀ (L : List (α × β)) (j : Nat), (∃ i c, fp a L j = some (i, c) ∧ j ≤ i ∧ L.set (i - j) (a, b) = upR a b L) ∨ (fp a L j = none ∧ L ++ [(a, b)] = upR a b L) := by
  intro L
  induction L with
  | nil => intro j; exact .inr ⟨rfl, rfl⟩
  | cons p l ih =>
   intro j
   obtain ⟨x, y⟩ := p
   by_cases e : a = x
   ·refine .inl ⟨j, y, by simp [fp, e], Nat.le_refl _, ?_⟩
    rw [Nat.sub_self]; simp [upR, e]
   ·have e' : ¬ x = a := fun h => e h.symm
    rcases ih (j + 1) with ⟨i, c, h1, h2, h3⟩ | ⟨h1, h2⟩
    ·refine .inl ⟨i, c, by simp [fp, e, h1], by omega, ?_⟩
     rw [show i - j = (i - (j + 1)) + 1 by omega, List.set_cons_succ, h3]
     simp [upR, e']
    ·exact .inr ⟨by simp [fp, e, h1], by simp [upR, e', h2]⟩
 unfold upL
 rcases key L 0 with ⟨i, c, h1, -, h3⟩ | ⟨h1, h2⟩
 ·rw [h1]; exact h3
 ·rw [h1]; exact h2
theorem lk_cons {α β : Type} [DecidableEq α] (p : α × β) (l : List (α × β)) (x : α) : lk (p :: l) x = if p.1 = x then some p.2 else lk l x := by
 unfold lk
 rw [List.find?_cons]
 by_cases e : p.1 = x <;> simp [e]
theorem lk_up {α β : Type} [DecidableEq α] (L : List (α × β)) (a : α) (b : β) (x : α) : lk (upL L a b) x = if a = x then some b else lk L x := by
 rw [upL_upR]
 induction L with
 | nil => rw [upR, lk_cons]
 | cons p l ih =>
  unfold upR
  by_cases e : p.1 = a
  ·rw [if_pos e, lk_cons, lk_cons, e]
   by_cases e2 : a = x <;> simp [e2]
  ·rw [if_neg e, lk_cons, lk_cons, ih]
   by_cases e2 : p.1 = x
   ·rw [if_pos e2, if_pos e2, if_neg (fun h => e (by rw [e2, h]))]
   ·rw [if_neg e2, if_neg e2]
end Go.Proofs.YtmbaennilhdieaaGreat
/- Plain: valid cells, as a plain predicate. -/
namespace Go.Proofs.YtmbaennilhdieaaGreat
open Go.RowKit
abbrev vZ : DValue := ⟨0, 0, ⟨#[]⟩⟩
def atL (l : List DValue) (i : Nat) : DValue := l.getD i vZ
def mayB (v : DValue) : Bool := (r15_May_O 0 v).getD false
def numB (v : DValue) (a b : Int) : Bool := decide (v.Kind = 3) && (decide (a ≤ v.N) && decide (v.N ≤ b))
def noneB (v : DValue) (k : Int) : Bool := decide (v.Kind = 0) || decide (v.Kind = k)
def propsB (k : Int) : Bool := decide (k = 1) || decide (k = 2) || decide (k = 3) || decide (k = 6) || decide (k = 8) || decide (k = 9) || decide (k = 10)
def slotsB (k sh fl : Int) (l : List DValue) : Bool :=
 bif propsB k || (decide (k = 7) && decide (0 < l.length)) then decide (1 ≤ l.length) && decide (l.length ≤ 1025) && (decide ((atL l 0).Kind = 1) || decide ((atL l 0).Kind = 7))
 else bif decide (k = 7) then decide (sh = 0) else bif !decide (sh = 0) || !decide (fl = 0) then false else bif decide (k = 5) then decide (l.length = 2) && noneB (atL l 0) 7 && noneB (atL l 1) 7 else decide (l.length = 0)
theorem dec_cast {p q : Prop} [Decidable p] [Decidable q] (h : p ↔ q) : decide p = decide q := by
 by_cases hp : p
 ·rw [decide_eq_true hp, decide_eq_true (h.1 hp)]
 ·rw [decide_eq_false hp, decide_eq_false fun hq => hp (h.2 hq)]
def entB2 : List DValue → Bool
 | k :: v :: r => decide (k.Kind = 7) && !decide (v.Kind = 8) && entB2 r
 | [_] => false
 | [] => true
def entB4 : List DValue → Bool
 | t :: h :: k :: s :: r => decide (t.Kind = 7) && !decide (h.Kind = 8) && (noneB k 7 && numB s 0 9007199254740992) && entB4 r
 | [] => true
 | _ => false
def moreB (k : Int) (l : List DValue) : Bool :=
 bif decide (k = 2) then decide (l.length ≤ 4096)
 else bif decide (k = 1) || decide (k = 5) then decide (l.length = 0)
 else bif decide (k = 3) then decide (l.length = 3) && numB (atL l 0) 0 9007199254740992 && noneB (atL l 1) 9
 else bif decide (k = 4) then decide (1 ≤ l.length) && decide (l.length ≤ 4097) && noneB (atL l 0) 9
 else bif decide (k = 6) then decide (l.length = 2) && numB (atL l 0) 0 3 && noneB (atL l 1) 9
 else bif decide (k = 7) then decide (4 ≤ l.length) && numB (atL l 2) 0 1 && numB (atL l 3) 0 9007199254740992
 else bif decide (k = 8) then entB2 l
 else bif decide (k = 10) then decide (1 ≤ l.length) && decide ((atL l 0).Kind = 7) && entB4 (l.drop 1)
 else bif decide (k = 9) then decide (2 ≤ l.length) && numB (atL l 0) 0 2
 else true
def rightB (c : DCell) : Bool :=
 (!decide (c.Kind < 1) && !decide (11 < c.Kind) && !decide (c.Shape < 0) && !decide (c.Flags < 0) && !decide (63 < c.Flags) && !decide (c.Age < 0) && !decide (1 < c.Age)) && (c.Slots.all mayB && (c.More.all mayB && (slotsB c.Kind c.Shape c.Flags c.Slots && moreB c.Kind c.More)))
end Go.Proofs.YtmbaennilhdieaaGreat