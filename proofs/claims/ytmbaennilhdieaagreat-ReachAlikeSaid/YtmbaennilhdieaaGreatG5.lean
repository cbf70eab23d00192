/- Merged texts: part 5. No conditions of their own. -/
import Derived.Test.YtmbaennilhdieaaGreatG4
/- Pure functions and contracts of Go functions (printed by all3.py). -/
namespace Go.Proofs.YtmbaennilhdieaaGreat
open Go.RowKit Asn
set_option maxRecDepth 20000

def pantomimeref15_entries_j4 (N : Nat) : Option Bool :=
  some true
def pantomimeref15_entries_l5 (N : Nat) (a1 : Int) (a0 : (List DValue)) : Nat → Int → Option Bool
  | 0, _ => none
  | m5 + 1, p6 => bif decide (p6 < (a0.length : Int)) then ((getE a0 p6).bind fun x8 => (bif !decide (x8.Kind = 7) then (some true) else (req (in64 (p6 + 1)) ((getE a0 (p6 + 1)).bind fun x11 => some (decide (x11.Kind = 8))))).bind fun b9 => bif b9 then (some false) else ((bif decide (a1 = 4) then (req (in64 (p6 + 2)) ((getE a0 (p6 + 2)).bind fun x15 => (pantomimeref15_none_O N x15 7).bind fun y16 => (bif !y16 then (some true) else (req (in64 (p6 + 3)) ((getE a0 (p6 + 3)).bind fun x19 => (pantomimeref15_num_O N x19 0 9007199254740992).bind fun y20 => some (!y20)))).bind fun b17 => some b17)) else (some false)).bind fun b13 => bif b13 then (some false) else (req (in64 (p6 + a1)) ((pantomimeref15_entries_l5 N a1 a0 m5) (p6 + a1))))) else (pantomimeref15_entries_j4 N)
theorem pantomimeref15_entries_l5_s {N m5 : Nat} {a1 : Int} {a0 : (List DValue)} {p6 : Int} : pantomimeref15_entries_l5 N a1 a0 (m5 + 1) p6 = bif decide (p6 < (a0.length : Int)) then ((getE a0 p6).bind fun x8 => (bif !decide (x8.Kind = 7) then (some true) else (req (in64 (p6 + 1)) ((getE a0 (p6 + 1)).bind fun x11 => some (decide (x11.Kind = 8))))).bind fun b9 => bif b9 then (some false) else ((bif decide (a1 = 4) then (req (in64 (p6 + 2)) ((getE a0 (p6 + 2)).bind fun x15 => (pantomimeref15_none_O N x15 7).bind fun y16 => (bif !y16 then (some true) else (req (in64 (p6 + 3)) ((getE a0 (p6 + 3)).bind fun x19 => (pantomimeref15_num_O N x19 0 9007199254740992).bind fun y20 => some (!y20)))).bind fun b17 => some b17)) else (some false)).bind fun b13 => bif b13 then (some false) else (req (in64 (p6 + a1)) ((pantomimeref15_entries_l5 N a1 a0 m5) (p6 + a1))))) else (pantomimeref15_entries_j4 N) := rfl
def pantomimeref15_entries_O (N : Nat) (a0 : (List DValue)) (a1 : Int) : Option Bool :=
  req (a1 ≠ 0) (bif !decide ((a0.length : Int).tmod a1 = 0) then (some false) else (pantomimeref15_entries_l5 N a1 a0 N 0))
theorem pantomimeref15_entries_ok {N : Nat} {a0 : (List DValue)} {a1 : Int} {r : Bool} (h : pantomimeref15_entries_O N a0 a1 = some r) {A1 : Option Addr} {n1 c1 : Nat} : Okc Tryz.prog 185 [.slice A1 n1 c1, .int .i64 a1] ([slC rDValue (.slice A1 n1 c1) a0]) (fun (u : Value) (post : List Chunk) => u = .bool r ∧ post = []) := by
  refine ok_E Tryz.func185 rfl rfl ?_
  simp only [envOf]
  refine run ?_
  refine G_seq ?_
  refine run ?_
  refine G_rd (rd_len 0 rfl els_sl rfl Tryz.underlying25) rfl rfl rfl ?_
  refine run ?_
  obtain ⟨q2, h⟩ := req_elim h
  refine G_ev (ev_rem rfl rfl q2) rfl rfl rfl ?_
  refine run ?_
  refine G_cond rfl (fun g3 => ?_) (fun g3 => ?_)
  · replace h := cond_t g3 h
    refine run ?_
    obtain rfl := Option.some.inj h
    exact endG1 rfl rfl (cv_sel [] 1 rfl rfl) ⟨rfl, rfl⟩
  · replace h := cond_f g3 h
    refine run ?_
    refine G_joinF (fun s L => pantomimeref15_entries_j4 N = some r ∧ s = [(4, .bool false)] ∧ L = []) ?_ ?_
    · refine run ?_
      refine G_loopF (fun m s L => ∃ (p6 : Int), pantomimeref15_entries_l5 N a1 a0 m p6 = some r ∧ s = [(0, .slice A1 n1 c1), (1, .int .i64 a1), (4, .bool false), (5, .int .i64 p6)] ∧ L = [slC rDValue (.slice A1 n1 c1) a0]) N _ _ ⟨0, h, rfl, rfl⟩ (sub_cons rfl (sub_cons rfl (sub_cons rfl (sub_cons rfl sub_nil)))) (cv_sel [0] 1 rfl rfl) ?_
      rintro (_ | m5) _ _ ⟨p6, h, rfl, rfl⟩
      · exact none_some h
      rw [pantomimeref15_entries_l5_s] at h
      refine G_seq ?_
      refine run ?_
      refine G_rd (rd_len 0 rfl els_sl rfl Tryz.underlying25) rfl rfl rfl ?_
      refine run ?_
      refine G_cond rfl (fun g7 => ?_) (fun g7 => ?_)
      · replace h := cond_t g7 h
        refine run ?_
        refine G_seq ?_
        refine G_block ?_
        refine G_seq ?_
        refine run ?_
        obtain ⟨x8, hx8, h⟩ := bind_elim h
        obtain ⟨lx8, ux8, hx8⟩ := getE_elim hx8
        refine G_rd (rd_idx 0 rfl els_sl rfl rfl Tryz.underlying25 size38 lx8 ux8) rfl rfl rfl ?_
        refine G_rd (rd_fa0 0 rfl els_sl rfl (toNat_lt lx8 ux8) fa_38_0) rfl rfl rfl ?_
        refine G_rd (rd_elem1 (u := .int .i64 x8.Kind) 0 rfl els_sl rfl hx8 one3 (fun _ _ _ h => by rw [show _ = _ from h]; rfl)) rfl rfl rfl ?_
        refine run ?_
        obtain ⟨b9, hb9, h⟩ := bind_elim h
        refine G_segb 8 32 b9 ?_ ?_
        · clear h
          refine G_case 24 rfl (fun g9 => ?_) (fun g9 => ?_)
          · have h := cond_t g9 hb9
            refine run ?_
            obtain rfl := Option.some.inj h
            exact G_joined (sub_cons rfl (sub_skip (sub_skip (sub_skip (sub_skip (sub_skip (sub_skip (sub_skip (sub_skip sub_refl rfl) rfl) rfl) rfl) rfl) rfl) rfl) rfl)) (cv_sel [0] 1 rfl rfl)
          · have h := cond_f g9 hb9
            refine run ?_
            obtain ⟨q10, h⟩ := req_elim h
            refine G_ev (ev_add rfl rfl q10.1 q10.2) rfl (g_ff g9 rfl) rfl ?_
            obtain ⟨x11, hx11, h⟩ := bind_elim h
            obtain ⟨lx11, ux11, hx11⟩ := getE_elim hx11
            refine G_rd (rd_idx 0 rfl els_sl rfl rfl Tryz.underlying25 size38 lx11 ux11) rfl (g_ff g9 rfl) rfl ?_
            refine G_rd (rd_fa0 0 rfl els_sl rfl (toNat_lt lx11 ux11) fa_38_0) rfl (g_ff g9 rfl) rfl ?_
            refine G_rd (rd_elem1 (u := .int .i64 x11.Kind) 0 rfl els_sl rfl hx11 one3 (fun _ _ _ h => by rw [show _ = _ from h]; rfl)) rfl (g_ff g9 rfl) rfl ?_
            refine run ?_
            obtain rfl := Option.some.inj h
            exact G_joined (sub_cons rfl (sub_skip (sub_skip (sub_skip (sub_skip (sub_skip (sub_skip (sub_skip (sub_skip sub_refl rfl) rfl) rfl) rfl) rfl) rfl) rfl) rfl)) (cv_sel [0] 1 rfl rfl)
        refine run ?_
        refine G_cond rfl (fun g12 => ?_) (fun g12 => ?_)
        · replace h := cond_t g12 h
          refine run ?_
          obtain rfl := Option.some.inj h
          exact endG1 rfl rfl (cv_sel [] 1 rfl rfl) ⟨rfl, rfl⟩
        · replace h := cond_f g12 h
          refine run ?_
          obtain ⟨b13, hb13, h⟩ := bind_elim h
          refine G_segb 17 52 b13 ?_ ?_
          · clear h
            refine G_case 35 rfl (fun g13 => ?_) (fun g13 => ?_)
            · have h := cond_t g13 hb13
              refine run ?_
              obtain ⟨q14, h⟩ := req_elim h
              refine G_ev (ev_add rfl rfl q14.1 q14.2) rfl (g_tt g13 rfl) rfl ?_
              obtain ⟨x15, hx15, h⟩ := bind_elim h
              obtain ⟨lx15, ux15, hx15⟩ := getE_elim hx15
              refine G_rd (rd_idx 0 rfl els_sl rfl rfl Tryz.underlying25 size38 lx15 ux15) rfl (g_tt g13 rfl) rfl ?_
              refine G_rd (rd_elemS (us := [.int .i64 x15.Kind, .int .i64 x15.N, .string x15.S]) 0 rfl els_sl rfl hx15 agg38 (fun _ _ _ h => by rw [show _ = _ from h]; rfl)) rfl (g_tt g13 rfl) rfl ?_
              obtain ⟨y16, hy16, h⟩ := bind_elim h
              refine G_opd (op_callR (pantomimeref15_none_ok hy16) call183 rfl (mem_nil) pantomimeref15_none_free) rfl (g_tt g13 rfl) rfl ?_
              rintro _ _ ⟨_, ⟨rfl, rfl⟩, rfl⟩
              refine run ?_
              obtain ⟨b17, hb17, h⟩ := bind_elim h
              refine G_segb 8 51 b17 ?_ ?_
              · clear h
                refine G_case 43 rfl (fun g17 => ?_) (fun g17 => ?_)
                · have h := cond_t g17 hb17
                  refine run ?_
                  obtain rfl := Option.some.inj h
                  exact G_joined (sub_cons rfl (sub_skip (sub_skip (sub_skip (sub_skip (sub_skip (sub_skip (sub_skip (sub_skip sub_refl rfl) rfl) rfl) rfl) rfl) rfl) rfl) rfl)) (cv_sel [0] 1 rfl rfl)
                · have h := cond_f g17 hb17
                  refine run ?_
                  obtain ⟨q18, h⟩ := req_elim h
                  refine G_ev (ev_add rfl rfl q18.1 q18.2) rfl (g_ff g17 rfl) rfl ?_
                  obtain ⟨x19, hx19, h⟩ := bind_elim h
                  obtain ⟨lx19, ux19, hx19⟩ := getE_elim hx19
                  refine G_rd (rd_idx 0 rfl els_sl rfl rfl Tryz.underlying25 size38 lx19 ux19) rfl (g_ff g17 rfl) rfl ?_
                  refine G_rd (rd_elemS (us := [.int .i64 x19.Kind, .int .i64 x19.N, .string x19.S]) 0 rfl els_sl rfl hx19 agg38 (fun _ _ _ h => by rw [show _ = _ from h]; rfl)) rfl (g_ff g17 rfl) rfl ?_
                  obtain ⟨y20, hy20, h⟩ := bind_elim h
                  refine G_opd (op_callR (pantomimeref15_num_ok hy20) call184 rfl (mem_nil) pantomimeref15_num_free) rfl (g_ff g17 rfl) rfl ?_
                  rintro _ _ ⟨_, ⟨rfl, rfl⟩, rfl⟩
                  refine run ?_
                  obtain rfl := Option.some.inj h
                  exact G_joined (sub_cons rfl (sub_skip (sub_skip (sub_skip (sub_skip (sub_skip (sub_skip (sub_skip (sub_skip sub_refl rfl) rfl) rfl) rfl) rfl) rfl) rfl) rfl)) (cv_sel [0] 1 rfl rfl)
              refine run ?_
              obtain rfl := Option.some.inj h
              exact G_joined (sub_cons rfl (sub_skip (sub_skip (sub_skip (sub_skip (sub_skip (sub_skip (sub_skip (sub_skip (sub_skip (sub_skip sub_refl rfl) rfl) rfl) rfl) rfl) rfl) rfl) rfl) rfl) rfl)) (cv_sel [0] 1 rfl rfl)
            · have h := cond_f g13 hb13
              refine run ?_
              obtain rfl := Option.some.inj h
              exact G_joined (sub_cons rfl (sub_skip (sub_skip (sub_skip (sub_skip (sub_skip (sub_skip (sub_skip (sub_skip (sub_skip (sub_skip (sub_skip (sub_skip (sub_skip (sub_skip (sub_skip (sub_skip (sub_skip sub_refl rfl) rfl) rfl) rfl) rfl) rfl) rfl) rfl) rfl) rfl) rfl) rfl) rfl) rfl) rfl) rfl) rfl)) (cv_sel [0] 1 rfl rfl)
          refine run ?_
          refine G_cond rfl (fun g21 => ?_) (fun g21 => ?_)
          · replace h := cond_t g21 h
            refine run ?_
            obtain rfl := Option.some.inj h
            exact endG1 rfl rfl (cv_sel [] 1 rfl rfl) ⟨rfl, rfl⟩
          · replace h := cond_f g21 h
            refine run ?_
            obtain ⟨q22, h⟩ := req_elim h
            refine G_ev (ev_add rfl rfl q22.1 q22.2) rfl rfl rfl ?_
            refine run ?_
            exact ⟨m5, _, _, Nat.lt_succ_self _, ⟨p6 + a1, h, rfl, rfl⟩, sub_cons rfl (sub_cons rfl (sub_cons rfl (sub_cons rfl sub_nil))), cv_sel [0] 1 rfl rfl⟩
      · replace h := cond_f g7 h
        refine run ?_
        exact ⟨_, _, ⟨h, rfl, rfl⟩, sub_cons rfl sub_nil, cv_sel [] 1 rfl rfl⟩
    · rintro _ _ ⟨h, rfl, rfl⟩
      refine run ?_
      obtain rfl := Option.some.inj h
      exact endG1 rfl rfl (cv_sel [] 0 rfl rfl) ⟨rfl, rfl⟩
theorem pantomimeref15_entries_free {r : Bool} : ∀ v post, ((fun (u : Value) (post : List Chunk) => u = .bool r ∧ post = [])) v post → ∀ c ∈ post, Free c := by
  rintro _ _ ⟨rfl, rfl⟩; exact mem_nil
def pantomimeref15_more_j6 (N : Nat) (a0 : DCell) (p7 : Bool) : Option Bool :=
  bif p7 then (some (decide ((a0.More.length : Int) = 0))) else (bif decide (a0.Kind = 3) then ((bif decide ((a0.More.length : Int) = 3) then ((getE a0.More 0).bind fun x12 => (pantomimeref15_num_O N x12 0 9007199254740992).bind fun y13 => some y13) else (some false)).bind fun b11 => (bif b11 then ((getE a0.More 1).bind fun x15 => (pantomimeref15_none_O N x15 9).bind fun y16 => some y16) else (some false)).bind fun b14 => some b14) else (bif decide (a0.Kind = 4) then ((bif decide (1 ≤ (a0.More.length : Int)) then (some (decide ((a0.More.length : Int) ≤ 4097))) else (some false)).bind fun b18 => (bif b18 then ((getE a0.More 0).bind fun x20 => (pantomimeref15_none_O N x20 9).bind fun y21 => some y21) else (some false)).bind fun b19 => some b19) else (bif decide (a0.Kind = 6) then ((bif decide ((a0.More.length : Int) = 2) then ((getE a0.More 0).bind fun x24 => (pantomimeref15_num_O N x24 0 3).bind fun y25 => some y25) else (some false)).bind fun b23 => (bif b23 then ((getE a0.More 1).bind fun x27 => (pantomimeref15_none_O N x27 9).bind fun y28 => some y28) else (some false)).bind fun b26 => some b26) else (bif decide (a0.Kind = 7) then ((bif decide (4 ≤ (a0.More.length : Int)) then ((getE a0.More 2).bind fun x31 => (pantomimeref15_num_O N x31 0 1).bind fun y32 => some y32) else (some false)).bind fun b30 => (bif b30 then ((getE a0.More 3).bind fun x34 => (pantomimeref15_num_O N x34 0 9007199254740992).bind fun y35 => some y35) else (some false)).bind fun b33 => some b33) else (bif decide (a0.Kind = 8) then ((pantomimeref15_entries_O N a0.More 2).bind fun y37 => some y37) else (bif decide (a0.Kind = 10) then ((bif decide (1 ≤ (a0.More.length : Int)) then ((getE a0.More 0).bind fun x40 => some (decide (x40.Kind = 7))) else (some false)).bind fun b39 => (bif b39 then (req ((0 : Int) ≤ 1 ∧ (1 : Int).toNat ≤ a0.More.length ∧ a0.More.length ≤ a0.More.length) ((pantomimeref15_entries_O N ((a0.More.drop ((1 : Int).toNat)).take (a0.More.length - (1 : Int).toNat)) 4).bind fun y44 => some y44)) else (some false)).bind fun b41 => some b41) else (bif decide (a0.Kind = 9) then ((bif decide (2 ≤ (a0.More.length : Int)) then ((getE a0.More 0).bind fun x47 => (pantomimeref15_num_O N x47 0 2).bind fun y48 => some y48) else (some false)).bind fun b46 => some b46) else (some true))))))))
def pantomimeref15_more_O (N : Nat) (a0 : DCell) : Option Bool :=
  bif decide (1048576 < (a0.More.length : Int)) then (some false) else (bif decide (a0.Kind = 2) then (some (decide ((a0.More.length : Int) ≤ 4096))) else (bif decide (a0.Kind = 1) then (pantomimeref15_more_j6 N a0 (decide (a0.Kind = 1))) else (pantomimeref15_more_j6 N a0 (decide (a0.Kind = 5)))))
set_option maxHeartbeats 4000000 in
theorem pantomimeref15_more_ok {N : Nat} {a0 : DCell} {r : Bool} (h : pantomimeref15_more_O N a0 = some r) {A1 : Option Addr} {n1 c1 : Nat} {A2 : Option Addr} {n2 c2 : Nat} : Okc Tryz.prog 146 [.agg #[.int .i64 a0.Kind, .int .i64 a0.Shape, .int .i64 a0.Flags, .int .i64 a0.Age, .slice A1 n1 c1, .slice A2 n2 c2]] ([slC rDValue (.slice A1 n1 c1) a0.Slots, slC rDValue (.slice A2 n2 c2) a0.More]) (fun (u : Value) (post : List Chunk) => u = .bool r ∧ post = []) := by
  refine ok_E Tryz.func146 rfl rfl ?_
  simp only [envOf]
  refine run ?_
  refine G_opd (op_box rfl rfl) rfl rfl rfl ?_
  rintro _ _ ⟨B3, rfl, rfl⟩
  refine run ?_
  refine G_seq ?_
  refine run ?_
  refine G_rd (rd_len 2 rfl els_sl rfl Tryz.underlying25) rfl rfl rfl ?_
  refine run ?_
  refine G_cond rfl (fun g4 => ?_) (fun g4 => ?_)
  · replace h := cond_t g4 h
    refine run ?_
    obtain rfl := Option.some.inj h
    exact endG1 rfl rfl (cv_sel [] 3 rfl rfl) ⟨rfl, rfl⟩
  · replace h := cond_f g4 h
    refine run ?_
    refine G_seq ?_
    refine run ?_
    refine G_cond rfl (fun g5 => ?_) (fun g5 => ?_)
    · replace h := cond_t g5 h
      refine run ?_
      refine G_rd (rd_len 2 rfl els_sl rfl Tryz.underlying25) rfl rfl rfl ?_
      refine run ?_
      obtain rfl := Option.some.inj h
      exact endG1 rfl rfl (cv_sel [] 3 rfl rfl) ⟨rfl, rfl⟩
    · replace h := cond_f g5 h
      refine G_joinF (fun s L => ∃ (p7 : Bool), pantomimeref15_more_j6 N a0 p7 = some r ∧ s = [(2, .bool false), (3, .slice A2 n2 c2), (10, .int .i64 a0.Kind), (16, .bool p7)] ∧ L = [slC rDValue (.slice A2 n2 c2) a0.More]) ?_ ?_
      · refine run ?_
        refine G_cond rfl (fun g8 => ?_) (fun g8 => ?_)
        · replace h := cond_t g8 h
          refine run ?_
          exact ⟨_, _, ⟨decide (a0.Kind = 1), h, rfl, rfl⟩, sub_cons rfl (sub_cons rfl (sub_cons rfl (sub_cons rfl sub_nil))), cv_sel [2] 3 rfl rfl⟩
        · replace h := cond_f g8 h
          refine run ?_
          exact ⟨_, _, ⟨decide (a0.Kind = 5), h, rfl, rfl⟩, sub_cons rfl (sub_cons rfl (sub_cons rfl (sub_cons rfl sub_nil))), cv_sel [2] 3 rfl rfl⟩
      · rintro _ _ ⟨p7, h, rfl, rfl⟩
        refine G_cond rfl (fun g9 => ?_) (fun g9 => ?_)
        · replace h := cond_t g9 h
          refine run ?_
          refine G_rd (rd_len 0 rfl els_sl rfl Tryz.underlying25) rfl rfl rfl ?_
          refine run ?_
          obtain rfl := Option.some.inj h
          exact endG1 rfl rfl (cv_sel [] 1 rfl rfl) ⟨rfl, rfl⟩
        · replace h := cond_f g9 h
          refine run ?_
          refine G_cond rfl (fun g10 => ?_) (fun g10 => ?_)
          · replace h := cond_t g10 h
            refine run ?_
            refine G_rd (rd_len 0 rfl els_sl rfl Tryz.underlying25) rfl rfl rfl ?_
            refine run ?_
            obtain ⟨b11, hb11, h⟩ := bind_elim h
            refine G_segb 5 32 b11 ?_ ?_
            · clear h
              refine G_case 27 rfl (fun g11 => ?_) (fun g11 => ?_)
              · have h := cond_t g11 hb11
                refine run ?_
                obtain ⟨x12, hx12, h⟩ := bind_elim h
                obtain ⟨lx12, ux12, hx12⟩ := getE_elim hx12
                refine G_rd (rd_idx 0 rfl els_sl rfl rfl Tryz.underlying25 size38 lx12 ux12) rfl (g_tt g11 rfl) rfl ?_
                refine G_rd (rd_elemS (us := [.int .i64 x12.Kind, .int .i64 x12.N, .string x12.S]) 0 rfl els_sl rfl hx12 agg38 (fun _ _ _ h => by rw [show _ = _ from h]; rfl)) rfl (g_tt g11 rfl) rfl ?_
                obtain ⟨y13, hy13, h⟩ := bind_elim h
                refine G_opd (op_callR (pantomimeref15_num_ok hy13) call184 rfl (mem_nil) pantomimeref15_num_free) rfl (g_tt g11 rfl) rfl ?_
                rintro _ _ ⟨_, ⟨rfl, rfl⟩, rfl⟩
                refine run ?_
                obtain rfl := Option.some.inj h
                exact G_joined (sub_cons rfl (sub_skip (sub_skip (sub_skip (sub_skip (sub_skip sub_refl rfl) rfl) rfl) rfl) rfl)) (cv_sel [0] 1 rfl rfl)
              · have h := cond_f g11 hb11
                refine run ?_
                obtain rfl := Option.some.inj h
                exact G_joined (sub_cons rfl (sub_skip (sub_skip (sub_skip (sub_skip (sub_skip sub_refl rfl) rfl) rfl) rfl) rfl)) (cv_sel [0] 1 rfl rfl)
            refine run ?_
            obtain ⟨b14, hb14, h⟩ := bind_elim h
            refine G_segb 5 38 b14 ?_ ?_
            · clear h
              refine G_case 33 rfl (fun g14 => ?_) (fun g14 => ?_)
              · have h := cond_t g14 hb14
                refine run ?_
                obtain ⟨x15, hx15, h⟩ := bind_elim h
                obtain ⟨lx15, ux15, hx15⟩ := getE_elim hx15
                refine G_rd (rd_idx 0 rfl els_sl rfl rfl Tryz.underlying25 size38 lx15 ux15) rfl (g_tt g14 rfl) rfl ?_
                refine G_rd (rd_elemS (us := [.int .i64 x15.Kind, .int .i64 x15.N, .string x15.S]) 0 rfl els_sl rfl hx15 agg38 (fun _ _ _ h => by rw [show _ = _ from h]; rfl)) rfl (g_tt g14 rfl) rfl ?_
                obtain ⟨y16, hy16, h⟩ := bind_elim h
                refine G_opd (op_callR (pantomimeref15_none_ok hy16) call183 rfl (mem_nil) pantomimeref15_none_free) rfl (g_tt g14 rfl) rfl ?_
                rintro _ _ ⟨_, ⟨rfl, rfl⟩, rfl⟩
                refine run ?_
                obtain rfl := Option.some.inj h
                exact G_joined (sub_cons rfl (sub_skip (sub_skip (sub_skip (sub_skip (sub_skip sub_refl rfl) rfl) rfl) rfl) rfl)) (cv_sel [0] 1 rfl rfl)
              · have h := cond_f g14 hb14
                refine run ?_
                obtain rfl := Option.some.inj h
                exact G_joined (sub_cons rfl (sub_skip (sub_skip (sub_skip (sub_skip (sub_skip sub_refl rfl) rfl) rfl) rfl) rfl)) (cv_sel [0] 1 rfl rfl)
            refine run ?_
            obtain rfl := Option.some.inj h
            exact endG1 rfl rfl (cv_sel [] 1 rfl rfl) ⟨rfl, rfl⟩
          · replace h := cond_f g10 h
            refine run ?_
            refine G_cond rfl (fun g17 => ?_) (fun g17 => ?_)
            · replace h := cond_t g17 h
              refine run ?_
              refine G_rd (rd_len 0 rfl els_sl rfl Tryz.underlying25) rfl rfl rfl ?_
              refine run ?_
              obtain ⟨b18, hb18, h⟩ := bind_elim h
              refine G_segb 4 48 b18 ?_ ?_
              · clear h
                refine G_case 44 rfl (fun g18 => ?_) (fun g18 => ?_)
                · have h := cond_t g18 hb18
                  refine run ?_
                  refine G_rd (rd_len 0 rfl els_sl rfl Tryz.underlying25) rfl (g_tt g18 rfl) rfl ?_
                  refine run ?_
                  obtain rfl := Option.some.inj h
                  exact G_joined (sub_cons rfl (sub_skip (sub_skip (sub_skip (sub_skip sub_refl rfl) rfl) rfl) rfl)) (cv_sel [0] 1 rfl rfl)
                · have h := cond_f g18 hb18
                  refine run ?_
                  obtain rfl := Option.some.inj h
                  exact G_joined (sub_cons rfl (sub_skip (sub_skip (sub_skip (sub_skip sub_refl rfl) rfl) rfl) rfl)) (cv_sel [0] 1 rfl rfl)
              refine run ?_
              obtain ⟨b19, hb19, h⟩ := bind_elim h
              refine G_segb 5 54 b19 ?_ ?_
              · clear h
                refine G_case 49 rfl (fun g19 => ?_) (fun g19 => ?_)
                · have h := cond_t g19 hb19
                  refine run ?_
                  obtain ⟨x20, hx20, h⟩ := bind_elim h
                  obtain ⟨lx20, ux20, hx20⟩ := getE_elim hx20
                  refine G_rd (rd_idx 0 rfl els_sl rfl rfl Tryz.underlying25 size38 lx20 ux20) rfl (g_tt g19 rfl) rfl ?_
                  refine G_rd (rd_elemS (us := [.int .i64 x20.Kind, .int .i64 x20.N, .string x20.S]) 0 rfl els_sl rfl hx20 agg38 (fun _ _ _ h => by rw [show _ = _ from h]; rfl)) rfl (g_tt g19 rfl) rfl ?_
                  obtain ⟨y21, hy21, h⟩ := bind_elim h
                  refine G_opd (op_callR (pantomimeref15_none_ok hy21) call183 rfl (mem_nil) pantomimeref15_none_free) rfl (g_tt g19 rfl) rfl ?_
                  rintro _ _ ⟨_, ⟨rfl, rfl⟩, rfl⟩
                  refine run ?_
                  obtain rfl := Option.some.inj h
                  exact G_joined (sub_cons rfl (sub_skip (sub_skip (sub_skip (sub_skip (sub_skip sub_refl rfl) rfl) rfl) rfl) rfl)) (cv_sel [0] 1 rfl rfl)
                · have h := cond_f g19 hb19
                  refine run ?_
                  obtain rfl := Option.some.inj h
                  exact G_joined (sub_cons rfl (sub_skip (sub_skip (sub_skip (sub_skip (sub_skip sub_refl rfl) rfl) rfl) rfl) rfl)) (cv_sel [0] 1 rfl rfl)
              refine run ?_
              obtain rfl := Option.some.inj h
              exact endG1 rfl rfl (cv_sel [] 1 rfl rfl) ⟨rfl, rfl⟩
            · replace h := cond_f g17 h
              refine run ?_
              refine G_cond rfl (fun g22 => ?_) (fun g22 => ?_)
              · replace h := cond_t g22 h
                refine run ?_
                refine G_rd (rd_len 0 rfl els_sl rfl Tryz.underlying25) rfl rfl rfl ?_
                refine run ?_
                obtain ⟨b23, hb23, h⟩ := bind_elim h
                refine G_segb 5 65 b23 ?_ ?_
                · clear h
                  refine G_case 60 rfl (fun g23 => ?_) (fun g23 => ?_)
                  · have h := cond_t g23 hb23
                    refine run ?_
                    obtain ⟨x24, hx24, h⟩ := bind_elim h
                    obtain ⟨lx24, ux24, hx24⟩ := getE_elim hx24
                    refine G_rd (rd_idx 0 rfl els_sl rfl rfl Tryz.underlying25 size38 lx24 ux24) rfl (g_tt g23 rfl) rfl ?_
                    refine G_rd (rd_elemS (us := [.int .i64 x24.Kind, .int .i64 x24.N, .string x24.S]) 0 rfl els_sl rfl hx24 agg38 (fun _ _ _ h => by rw [show _ = _ from h]; rfl)) rfl (g_tt g23 rfl) rfl ?_
                    obtain ⟨y25, hy25, h⟩ := bind_elim h
                    refine G_opd (op_callR (pantomimeref15_num_ok hy25) call184 rfl (mem_nil) pantomimeref15_num_free) rfl (g_tt g23 rfl) rfl ?_
                    rintro _ _ ⟨_, ⟨rfl, rfl⟩, rfl⟩
                    refine run ?_
                    obtain rfl := Option.some.inj h
                    exact G_joined (sub_cons rfl (sub_skip (sub_skip (sub_skip (sub_skip (sub_skip sub_refl rfl) rfl) rfl) rfl) rfl)) (cv_sel [0] 1 rfl rfl)
                  · have h := cond_f g23 hb23
                    refine run ?_
                    obtain rfl := Option.some.inj h
                    exact G_joined (sub_cons rfl (sub_skip (sub_skip (sub_skip (sub_skip (sub_skip sub_refl rfl) rfl) rfl) rfl) rfl)) (cv_sel [0] 1 rfl rfl)
                refine run ?_
                obtain ⟨b26, hb26, h⟩ := bind_elim h
                refine G_segb 5 71 b26 ?_ ?_
                · clear h
                  refine G_case 66 rfl (fun g26 => ?_) (fun g26 => ?_)
                  · have h := cond_t g26 hb26
                    refine run ?_
                    obtain ⟨x27, hx27, h⟩ := bind_elim h
                    obtain ⟨lx27, ux27, hx27⟩ := getE_elim hx27
                    refine G_rd (rd_idx 0 rfl els_sl rfl rfl Tryz.underlying25 size38 lx27 ux27) rfl (g_tt g26 rfl) rfl ?_
                    refine G_rd (rd_elemS (us := [.int .i64 x27.Kind, .int .i64 x27.N, .string x27.S]) 0 rfl els_sl rfl hx27 agg38 (fun _ _ _ h => by rw [show _ = _ from h]; rfl)) rfl (g_tt g26 rfl) rfl ?_
                    obtain ⟨y28, hy28, h⟩ := bind_elim h
                    refine G_opd (op_callR (pantomimeref15_none_ok hy28) call183 rfl (mem_nil) pantomimeref15_none_free) rfl (g_tt g26 rfl) rfl ?_
                    rintro _ _ ⟨_, ⟨rfl, rfl⟩, rfl⟩
                    refine run ?_
                    obtain rfl := Option.some.inj h
                    exact G_joined (sub_cons rfl (sub_skip (sub_skip (sub_skip (sub_skip (sub_skip sub_refl rfl) rfl) rfl) rfl) rfl)) (cv_sel [0] 1 rfl rfl)
                  · have h := cond_f g26 hb26
                    refine run ?_
                    obtain rfl := Option.some.inj h
                    exact G_joined (sub_cons rfl (sub_skip (sub_skip (sub_skip (sub_skip (sub_skip sub_refl rfl) rfl) rfl) rfl) rfl)) (cv_sel [0] 1 rfl rfl)
                refine run ?_
                obtain rfl := Option.some.inj h
                exact endG1 rfl rfl (cv_sel [] 1 rfl rfl) ⟨rfl, rfl⟩
              · replace h := cond_f g22 h
                refine run ?_
                refine G_cond rfl (fun g29 => ?_) (fun g29 => ?_)
                · replace h := cond_t g29 h
                  refine run ?_
                  refine G_rd (rd_len 0 rfl els_sl rfl Tryz.underlying25) rfl rfl rfl ?_
                  refine run ?_
                  obtain ⟨b30, hb30, h⟩ := bind_elim h
                  refine G_segb 5 82 b30 ?_ ?_
                  · clear h
                    refine G_case 77 rfl (fun g30 => ?_) (fun g30 => ?_)
                    · have h := cond_t g30 hb30
                      refine run ?_
                      obtain ⟨x31, hx31, h⟩ := bind_elim h
                      obtain ⟨lx31, ux31, hx31⟩ := getE_elim hx31
                      refine G_rd (rd_idx 0 rfl els_sl rfl rfl Tryz.underlying25 size38 lx31 ux31) rfl (g_tt g30 rfl) rfl ?_
                      refine G_rd (rd_elemS (us := [.int .i64 x31.Kind, .int .i64 x31.N, .string x31.S]) 0 rfl els_sl rfl hx31 agg38 (fun _ _ _ h => by rw [show _ = _ from h]; rfl)) rfl (g_tt g30 rfl) rfl ?_
                      obtain ⟨y32, hy32, h⟩ := bind_elim h
                      refine G_opd (op_callR (pantomimeref15_num_ok hy32) call184 rfl (mem_nil) pantomimeref15_num_free) rfl (g_tt g30 rfl) rfl ?_
                      rintro _ _ ⟨_, ⟨rfl, rfl⟩, rfl⟩
                      refine run ?_
                      obtain rfl := Option.some.inj h
                      exact G_joined (sub_cons rfl (sub_skip (sub_skip (sub_skip (sub_skip (sub_skip sub_refl rfl) rfl) rfl) rfl) rfl)) (cv_sel [0] 1 rfl rfl)
                    · have h := cond_f g30 hb30
                      refine run ?_
                      obtain rfl := Option.some.inj h
                      exact G_joined (sub_cons rfl (sub_skip (sub_skip (sub_skip (sub_skip (sub_skip sub_refl rfl) rfl) rfl) rfl) rfl)) (cv_sel [0] 1 rfl rfl)
                  refine run ?_
                  obtain ⟨b33, hb33, h⟩ := bind_elim h
                  refine G_segb 5 88 b33 ?_ ?_
                  · clear h
                    refine G_case 83 rfl (fun g33 => ?_) (fun g33 => ?_)
                    · have h := cond_t g33 hb33
                      refine run ?_
                      obtain ⟨x34, hx34, h⟩ := bind_elim h
                      obtain ⟨lx34, ux34, hx34⟩ := getE_elim hx34
                      refine G_rd (rd_idx 0 rfl els_sl rfl rfl Tryz.underlying25 size38 lx34 ux34) rfl (g_tt g33 rfl) rfl ?_
                      refine G_rd (rd_elemS (us := [.int .i64 x34.Kind, .int .i64 x34.N, .string x34.S]) 0 rfl els_sl rfl hx34 agg38 (fun _ _ _ h => by rw [show _ = _ from h]; rfl)) rfl (g_tt g33 rfl) rfl ?_
                      obtain ⟨y35, hy35, h⟩ := bind_elim h
                      refine G_opd (op_callR (pantomimeref15_num_ok hy35) call184 rfl (mem_nil) pantomimeref15_num_free) rfl (g_tt g33 rfl) rfl ?_
                      rintro _ _ ⟨_, ⟨rfl, rfl⟩, rfl⟩
                      refine run ?_
                      obtain rfl := Option.some.inj h
                      exact G_joined (sub_cons rfl (sub_skip (sub_skip (sub_skip (sub_skip (sub_skip sub_refl rfl) rfl) rfl) rfl) rfl)) (cv_sel [0] 1 rfl rfl)
                    · have h := cond_f g33 hb33
                      refine run ?_
                      obtain rfl := Option.some.inj h
                      exact G_joined (sub_cons rfl (sub_skip (sub_skip (sub_skip (sub_skip (sub_skip sub_refl rfl) rfl) rfl) rfl) rfl)) (cv_sel [0] 1 rfl rfl)
                  refine run ?_
                  obtain rfl := Option.some.inj h
                  exact endG1 rfl rfl (cv_sel [] 1 rfl rfl) ⟨rfl, rfl⟩
                · replace h := cond_f g29 h
                  refine run ?_
                  refine G_cond rfl (fun g36 => ?_) (fun g36 => ?_)
                  · replace h := cond_t g36 h
                    refine run ?_
                    obtain ⟨y37, hy37, h⟩ := bind_elim h
                    refine G_opd (op_callR (pantomimeref15_entries_ok hy37) call185 rfl (mem_cons (lent_ro (i := 0) rfl rfl) mem_nil) pantomimeref15_entries_free) rfl rfl rfl ?_
                    rintro _ _ ⟨_, ⟨rfl, rfl⟩, rfl⟩
                    refine run ?_
                    obtain rfl := Option.some.inj h
                    exact endG1 rfl rfl (cv_sel [] 1 rfl rfl) ⟨rfl, rfl⟩
                  · replace h := cond_f g36 h
                    refine run ?_
                    refine G_cond rfl (fun g38 => ?_) (fun g38 => ?_)
                    · replace h := cond_t g38 h
                      refine run ?_
                      refine G_rd (rd_len 0 rfl els_sl rfl Tryz.underlying25) rfl rfl rfl ?_
                      refine run ?_
                      obtain ⟨b39, hb39, h⟩ := bind_elim h
                      refine G_segb 6 104 b39 ?_ ?_
                      · clear h
                        refine G_case 98 rfl (fun g39 => ?_) (fun g39 => ?_)
                        · have h := cond_t g39 hb39
                          refine run ?_
                          obtain ⟨x40, hx40, h⟩ := bind_elim h
                          obtain ⟨lx40, ux40, hx40⟩ := getE_elim hx40
                          refine G_rd (rd_idx 0 rfl els_sl rfl rfl Tryz.underlying25 size38 lx40 ux40) rfl (g_tt g39 rfl) rfl ?_
                          refine G_rd (rd_fa0 0 rfl els_sl rfl (toNat_lt lx40 ux40) fa_38_0) rfl (g_tt g39 rfl) rfl ?_
                          refine G_rd (rd_elem1 (u := .int .i64 x40.Kind) 0 rfl els_sl rfl hx40 one3 (fun _ _ _ h => by rw [show _ = _ from h]; rfl)) rfl (g_tt g39 rfl) rfl ?_
                          refine run ?_
                          obtain rfl := Option.some.inj h
                          exact G_joined (sub_cons rfl (sub_skip (sub_skip (sub_skip (sub_skip (sub_skip (sub_skip sub_refl rfl) rfl) rfl) rfl) rfl) rfl)) (cv_sel [0] 1 rfl rfl)
                        · have h := cond_f g39 hb39
                          refine run ?_
                          obtain rfl := Option.some.inj h
                          exact G_joined (sub_cons rfl (sub_skip (sub_skip (sub_skip (sub_skip (sub_skip (sub_skip sub_refl rfl) rfl) rfl) rfl) rfl) rfl)) (cv_sel [0] 1 rfl rfl)
                      refine run ?_
                      obtain ⟨b41, hb41, h⟩ := bind_elim h
                      refine G_segb 4 109 b41 ?_ ?_
                      · clear h
                        refine G_case 105 rfl (fun g41 => ?_) (fun g41 => ?_)
                        · have h := cond_t g41 hb41
                          refine run ?_
                          obtain ⟨q42, h⟩ := req_elim h
                          refine G_cut 0 rfl (l := (1 : Int).toNat) (h := a0.More.length) q42.2.1 q42.2.2 ?_
                          rintro A43 n43 c43 e43
                          refine G_rd (rd_cutN 1 rfl e43 rfl Tryz.underlying25 size38 rfl (by rw [Int.toNat_of_nonneg q42.1]; rfl) q42.2.1) rfl (g_tt g41 rfl) rfl ?_
                          obtain ⟨y44, hy44, h⟩ := bind_elim h
                          refine G_opd (op_callR (pantomimeref15_entries_ok hy44) call185 rfl (mem_cons (lent_ro (i := 0) rfl rfl) mem_nil) pantomimeref15_entries_free) rfl (g_tt g41 rfl) rfl ?_
                          rintro _ _ ⟨_, ⟨rfl, rfl⟩, rfl⟩
                          refine run ?_
                          obtain rfl := Option.some.inj h
                          exact G_joined (sub_cons rfl (sub_skip (sub_skip (sub_skip (sub_skip sub_refl rfl) rfl) rfl) rfl)) (cv_sel [1] 2 rfl rfl)
                        · have h := cond_f g41 hb41
                          refine run ?_
                          obtain rfl := Option.some.inj h
                          exact G_joined (sub_cons rfl (sub_skip (sub_skip (sub_skip (sub_skip sub_refl rfl) rfl) rfl) rfl)) (cv_sel [0] 1 rfl rfl)
                      refine run ?_
                      obtain rfl := Option.some.inj h
                      exact endG1 rfl rfl (cv_sel [] 1 rfl rfl) ⟨rfl, rfl⟩
                    · replace h := cond_f g38 h
                      refine run ?_
                      refine G_cond rfl (fun g45 => ?_) (fun g45 => ?_)
                      · replace h := cond_t g45 h
                        refine run ?_
                        refine G_rd (rd_len 0 rfl els_sl rfl Tryz.underlying25) rfl rfl rfl ?_
                        refine run ?_
                        obtain ⟨b46, hb46, h⟩ := bind_elim h
                        refine G_segb 5 120 b46 ?_ ?_
                        · clear h
                          refine G_case 115 rfl (fun g46 => ?_) (fun g46 => ?_)
                          · have h := cond_t g46 hb46
                            refine run ?_
                            obtain ⟨x47, hx47, h⟩ := bind_elim h
                            obtain ⟨lx47, ux47, hx47⟩ := getE_elim hx47
                            refine G_rd (rd_idx 0 rfl els_sl rfl rfl Tryz.underlying25 size38 lx47 ux47) rfl (g_tt g46 rfl) rfl ?_
                            refine G_rd (rd_elemS (us := [.int .i64 x47.Kind, .int .i64 x47.N, .string x47.S]) 0 rfl els_sl rfl hx47 agg38 (fun _ _ _ h => by rw [show _ = _ from h]; rfl)) rfl (g_tt g46 rfl) rfl ?_
                            obtain ⟨y48, hy48, h⟩ := bind_elim h
                            refine G_opd (op_callR (pantomimeref15_num_ok hy48) call184 rfl (mem_nil) pantomimeref15_num_free) rfl (g_tt g46 rfl) rfl ?_
                            rintro _ _ ⟨_, ⟨rfl, rfl⟩, rfl⟩
                            refine run ?_
                            obtain rfl := Option.some.inj h
                            exact G_joined (sub_cons rfl (sub_skip (sub_skip (sub_skip (sub_skip (sub_skip sub_refl rfl) rfl) rfl) rfl) rfl)) (cv_sel [0] 1 rfl rfl)
                          · have h := cond_f g46 hb46
                            refine run ?_
                            obtain rfl := Option.some.inj h
                            exact G_joined (sub_cons rfl (sub_skip (sub_skip (sub_skip (sub_skip (sub_skip sub_refl rfl) rfl) rfl) rfl) rfl)) (cv_sel [0] 1 rfl rfl)
                        refine run ?_
                        obtain rfl := Option.some.inj h
                        exact endG1 rfl rfl (cv_sel [] 1 rfl rfl) ⟨rfl, rfl⟩
                      · replace h := cond_f g45 h
                        refine run ?_
                        obtain rfl := Option.some.inj h
                        exact endG1 rfl rfl (cv_sel [] 1 rfl rfl) ⟨rfl, rfl⟩
theorem pantomimeref15_more_free {r : Bool} : ∀ v post, ((fun (u : Value) (post : List Chunk) => u = .bool r ∧ post = [])) v post → ∀ c ∈ post, Free c := by
  rintro _ _ ⟨rfl, rfl⟩; exact mem_nil
def pantomimeref15_Right_j19 (N : Nat) (a0 : DCell) : Option Bool :=
  (pantomimeref15_slots_O N a0).bind fun y27 => (bif y27 then ((pantomimeref15_more_O N a0).bind fun y29 => some y29) else (some false)).bind fun b28 => some b28
def pantomimeref15_Right_l20 (N : Nat) (a0 : DCell) : Nat → Int → Option Bool
  | 0, _ => none
  | m20 + 1, p21 => bif decide (p21 < (a0.More.length : Int)) then ((getE a0.More p21).bind fun x23 => (pantomimeref15_May_O N x23).bind fun y24 => bif !y24 then (some false) else (req (in64 (p21 + 1)) ((pantomimeref15_Right_l20 N a0 m20) (p21 + 1)))) else (pantomimeref15_Right_j19 N a0)
theorem pantomimeref15_Right_l20_s {N m20 : Nat} {a0 : DCell} {p21 : Int} : pantomimeref15_Right_l20 N a0 (m20 + 1) p21 = bif decide (p21 < (a0.More.length : Int)) then ((getE a0.More p21).bind fun x23 => (pantomimeref15_May_O N x23).bind fun y24 => bif !y24 then (some false) else (req (in64 (p21 + 1)) ((pantomimeref15_Right_l20 N a0 m20) (p21 + 1)))) else (pantomimeref15_Right_j19 N a0) := rfl
def pantomimeref15_Right_j11 (N : Nat) (a0 : DCell) : Option Bool :=
  pantomimeref15_Right_l20 N a0 N 0
def pantomimeref15_Right_l12 (N : Nat) (a0 : DCell) : Nat → Int → Option Bool
  | 0, _ => none
  | m12 + 1, p13 => bif decide (p13 < (a0.Slots.length : Int)) then ((getE a0.Slots p13).bind fun x15 => (pantomimeref15_May_O N x15).bind fun y16 => bif !y16 then (some false) else (req (in64 (p13 + 1)) ((pantomimeref15_Right_l12 N a0 m12) (p13 + 1)))) else (pantomimeref15_Right_j11 N a0)
theorem pantomimeref15_Right_l12_s {N m12 : Nat} {a0 : DCell} {p13 : Int} : pantomimeref15_Right_l12 N a0 (m12 + 1) p13 = bif decide (p13 < (a0.Slots.length : Int)) then ((getE a0.Slots p13).bind fun x15 => (pantomimeref15_May_O N x15).bind fun y16 => bif !y16 then (some false) else (req (in64 (p13 + 1)) ((pantomimeref15_Right_l12 N a0 m12) (p13 + 1)))) else (pantomimeref15_Right_j11 N a0) := rfl
def pantomimeref15_Right_O (N : Nat) (a0 : DCell) : Option Bool :=
  (bif decide (a0.Kind < 1) then (some true) else (some (decide (11 < a0.Kind)))).bind fun b4 => (bif b4 then (some true) else (some (decide (a0.Shape < 0)))).bind fun b5 => (bif b5 then (some true) else (some (decide (a0.Flags < 0)))).bind fun b6 => (bif b6 then (some true) else (some (decide (63 < a0.Flags)))).bind fun b7 => (bif b7 then (some true) else (some (decide (a0.Age < 0)))).bind fun b8 => (bif b8 then (some true) else (some (decide (1 < a0.Age)))).bind fun b9 => bif b9 then (some false) else (pantomimeref15_Right_l12 N a0 N 0)
theorem pantomimeref15_Right_ok {N : Nat} {a0 : DCell} {r : Bool} (h : pantomimeref15_Right_O N a0 = some r) {A1 : Option Addr} {n1 c1 : Nat} {A2 : Option Addr} {n2 c2 : Nat} : Okc Tryz.prog 92 [.agg #[.int .i64 a0.Kind, .int .i64 a0.Shape, .int .i64 a0.Flags, .int .i64 a0.Age, .slice A1 n1 c1, .slice A2 n2 c2]] ([slC rDValue (.slice A1 n1 c1) a0.Slots, slC rDValue (.slice A2 n2 c2) a0.More]) (fun (u : Value) (post : List Chunk) => u = .bool r ∧ post = []) := by
  refine ok_E Tryz.func92 rfl rfl ?_
  simp only [envOf]
  refine run ?_
  refine G_opd (op_box rfl rfl) rfl rfl rfl ?_
  rintro _ _ ⟨B3, rfl, rfl⟩
  refine run ?_
  refine G_seq ?_
  refine run ?_
  obtain ⟨b4, hb4, h⟩ := bind_elim h
  refine G_segb 4 12 b4 ?_ ?_
  · clear h
    refine G_case 8 rfl (fun g4 => ?_) (fun g4 => ?_)
    · have h := cond_t g4 hb4
      refine run ?_
      obtain rfl := Option.some.inj h
      exact G_joined (sub_cons rfl (sub_skip (sub_skip (sub_skip (sub_skip sub_refl rfl) rfl) rfl) rfl)) (cv_sel [0, 1, 2] 3 rfl rfl)
    · have h := cond_f g4 hb4
      refine run ?_
      obtain rfl := Option.some.inj h
      exact G_joined (sub_cons rfl (sub_skip (sub_skip (sub_skip (sub_skip sub_refl rfl) rfl) rfl) rfl)) (cv_sel [0, 1, 2] 3 rfl rfl)
  refine run ?_
  obtain ⟨b5, hb5, h⟩ := bind_elim h
  refine G_segb 4 17 b5 ?_ ?_
  · clear h
    refine G_case 13 rfl (fun g5 => ?_) (fun g5 => ?_)
    · have h := cond_t g5 hb5
      refine run ?_
      obtain rfl := Option.some.inj h
      exact G_joined (sub_cons rfl (sub_skip (sub_skip (sub_skip (sub_skip sub_refl rfl) rfl) rfl) rfl)) (cv_sel [0, 1, 2] 3 rfl rfl)
    · have h := cond_f g5 hb5
      refine run ?_
      obtain rfl := Option.some.inj h
      exact G_joined (sub_cons rfl (sub_skip (sub_skip (sub_skip (sub_skip sub_refl rfl) rfl) rfl) rfl)) (cv_sel [0, 1, 2] 3 rfl rfl)
  refine run ?_
  obtain ⟨b6, hb6, h⟩ := bind_elim h
  refine G_segb 4 22 b6 ?_ ?_
  · clear h
    refine G_case 18 rfl (fun g6 => ?_) (fun g6 => ?_)
    · have h := cond_t g6 hb6
      refine run ?_
      obtain rfl := Option.some.inj h
      exact G_joined (sub_cons rfl (sub_skip (sub_skip (sub_skip (sub_skip sub_refl rfl) rfl) rfl) rfl)) (cv_sel [0, 1, 2] 3 rfl rfl)
    · have h := cond_f g6 hb6
      refine run ?_
      obtain rfl := Option.some.inj h
      exact G_joined (sub_cons rfl (sub_skip (sub_skip (sub_skip (sub_skip sub_refl rfl) rfl) rfl) rfl)) (cv_sel [0, 1, 2] 3 rfl rfl)
  refine run ?_
  obtain ⟨b7, hb7, h⟩ := bind_elim h
  refine G_segb 4 27 b7 ?_ ?_
  · clear h
    refine G_case 23 rfl (fun g7 => ?_) (fun g7 => ?_)
    · have h := cond_t g7 hb7
      refine run ?_
      obtain rfl := Option.some.inj h
      exact G_joined (sub_cons rfl (sub_skip (sub_skip (sub_skip (sub_skip sub_refl rfl) rfl) rfl) rfl)) (cv_sel [0, 1, 2] 3 rfl rfl)
    · have h := cond_f g7 hb7
      refine run ?_
      obtain rfl := Option.some.inj h
      exact G_joined (sub_cons rfl (sub_skip (sub_skip (sub_skip (sub_skip sub_refl rfl) rfl) rfl) rfl)) (cv_sel [0, 1, 2] 3 rfl rfl)
  refine run ?_
  obtain ⟨b8, hb8, h⟩ := bind_elim h
  refine G_segb 4 32 b8 ?_ ?_
  · clear h
    refine G_case 28 rfl (fun g8 => ?_) (fun g8 => ?_)
    · have h := cond_t g8 hb8
      refine run ?_
      obtain rfl := Option.some.inj h
      exact G_joined (sub_cons rfl (sub_skip (sub_skip (sub_skip (sub_skip sub_refl rfl) rfl) rfl) rfl)) (cv_sel [0, 1, 2] 3 rfl rfl)
    · have h := cond_f g8 hb8
      refine run ?_
      obtain rfl := Option.some.inj h
      exact G_joined (sub_cons rfl (sub_skip (sub_skip (sub_skip (sub_skip sub_refl rfl) rfl) rfl) rfl)) (cv_sel [0, 1, 2] 3 rfl rfl)
  refine run ?_
  obtain ⟨b9, hb9, h⟩ := bind_elim h
  refine G_segb 4 37 b9 ?_ ?_
  · clear h
    refine G_case 33 rfl (fun g9 => ?_) (fun g9 => ?_)
    · have h := cond_t g9 hb9
      refine run ?_
      obtain rfl := Option.some.inj h
      exact G_joined (sub_cons rfl (sub_skip (sub_skip (sub_skip (sub_skip sub_refl rfl) rfl) rfl) rfl)) (cv_sel [0, 1, 2] 3 rfl rfl)
    · have h := cond_f g9 hb9
      refine run ?_
      obtain rfl := Option.some.inj h
      exact G_joined (sub_cons rfl (sub_skip (sub_skip (sub_skip (sub_skip sub_refl rfl) rfl) rfl) rfl)) (cv_sel [0, 1, 2] 3 rfl rfl)
  refine run ?_
  refine G_cond rfl (fun g10 => ?_) (fun g10 => ?_)
  · replace h := cond_t g10 h
    refine run ?_
    obtain rfl := Option.some.inj h
    exact endG1 rfl rfl (cv_sel [] 3 rfl rfl) ⟨rfl, rfl⟩
  · replace h := cond_f g10 h
    refine run ?_
    refine G_joinF (fun s L => pantomimeref15_Right_j11 N a0 = some r ∧ s = [(1, .pointer (some ⟨B3, 0, none⟩)), (2, .bool false)] ∧ L = [slC rDValue (.slice A1 n1 c1) a0.Slots, slC rDValue (.slice A2 n2 c2) a0.More, boxC B3 32 [.int .i64 a0.Kind, .int .i64 a0.Shape, .int .i64 a0.Flags, .int .i64 a0.Age, .slice A1 n1 c1, .slice A2 n2 c2]]) ?_ ?_
    · refine run ?_
      refine G_loopF (fun m s L => ∃ (p13 : Int), pantomimeref15_Right_l12 N a0 m p13 = some r ∧ s = [(1, .pointer (some ⟨B3, 0, none⟩)), (2, .bool false), (3, .int .i64 p13)] ∧ L = [slC rDValue (.slice A1 n1 c1) a0.Slots, slC rDValue (.slice A2 n2 c2) a0.More, boxC B3 32 [.int .i64 a0.Kind, .int .i64 a0.Shape, .int .i64 a0.Flags, .int .i64 a0.Age, .slice A1 n1 c1, .slice A2 n2 c2]]) N _ _ ⟨0, h, rfl, rfl⟩ (sub_cons rfl (sub_cons rfl (sub_cons rfl sub_nil))) (cv_sel [1, 2, 0] 3 rfl rfl) ?_
      rintro (_ | m12) _ _ ⟨p13, h, rfl, rfl⟩
      · exact none_some h
      rw [pantomimeref15_Right_l12_s] at h
      refine G_seq ?_
      refine run ?_
      refine G_rd (rd_len 0 rfl els_sl rfl Tryz.underlying25) rfl rfl rfl ?_
      refine run ?_
      refine G_cond rfl (fun g14 => ?_) (fun g14 => ?_)
      · replace h := cond_t g14 h
        refine run ?_
        refine G_seq ?_
        refine run ?_
        obtain ⟨x15, hx15, h⟩ := bind_elim h
        obtain ⟨lx15, ux15, hx15⟩ := getE_elim hx15
        refine G_rd (rd_idx 0 rfl els_sl rfl rfl Tryz.underlying25 size38 lx15 ux15) rfl rfl rfl ?_
        refine G_rd (rd_elemS (us := [.int .i64 x15.Kind, .int .i64 x15.N, .string x15.S]) 0 rfl els_sl rfl hx15 agg38 (fun _ _ _ h => by rw [show _ = _ from h]; rfl)) rfl rfl rfl ?_
        obtain ⟨y16, hy16, h⟩ := bind_elim h
        refine G_opd (op_callR (pantomimeref15_May_ok hy16) call144 rfl (mem_nil) pantomimeref15_May_free) rfl rfl rfl ?_
        rintro _ _ ⟨_, ⟨rfl, rfl⟩, rfl⟩
        refine run ?_
        refine G_cond rfl (fun g17 => ?_) (fun g17 => ?_)
        · replace h := cond_t g17 h
          refine run ?_
          obtain rfl := Option.some.inj h
          exact endG1 rfl rfl (cv_sel [] 3 rfl rfl) ⟨rfl, rfl⟩
        · replace h := cond_f g17 h
          refine run ?_
          obtain ⟨q18, h⟩ := req_elim h
          refine G_ev (ev_add rfl rfl q18.1 q18.2) rfl rfl rfl ?_
          refine run ?_
          exact ⟨m12, _, _, Nat.lt_succ_self _, ⟨p13 + 1, h, rfl, rfl⟩, sub_cons rfl (sub_cons rfl (sub_cons rfl sub_nil)), cv_sel [0, 1, 2] 3 rfl rfl⟩
      · replace h := cond_f g14 h
        refine run ?_
        exact ⟨_, _, ⟨h, rfl, rfl⟩, sub_cons rfl (sub_cons rfl sub_nil), cv_sel [0, 1, 2] 3 rfl rfl⟩
    · rintro _ _ ⟨h, rfl, rfl⟩
      refine G_joinF (fun s L => pantomimeref15_Right_j19 N a0 = some r ∧ s = [(1, .pointer (some ⟨B3, 0, none⟩)), (2, .bool false)] ∧ L = [slC rDValue (.slice A1 n1 c1) a0.Slots, slC rDValue (.slice A2 n2 c2) a0.More, boxC B3 32 [.int .i64 a0.Kind, .int .i64 a0.Shape, .int .i64 a0.Flags, .int .i64 a0.Age, .slice A1 n1 c1, .slice A2 n2 c2]]) ?_ ?_
      · refine run ?_
        refine G_loopF (fun m s L => ∃ (p21 : Int), pantomimeref15_Right_l20 N a0 m p21 = some r ∧ s = [(1, .pointer (some ⟨B3, 0, none⟩)), (2, .bool false), (4, .int .i64 p21)] ∧ L = [slC rDValue (.slice A1 n1 c1) a0.Slots, slC rDValue (.slice A2 n2 c2) a0.More, boxC B3 32 [.int .i64 a0.Kind, .int .i64 a0.Shape, .int .i64 a0.Flags, .int .i64 a0.Age, .slice A1 n1 c1, .slice A2 n2 c2]]) N _ _ ⟨0, h, rfl, rfl⟩ (sub_cons rfl (sub_cons rfl (sub_cons rfl sub_nil))) (cv_sel [0, 1, 2] 3 rfl rfl) ?_
        rintro (_ | m20) _ _ ⟨p21, h, rfl, rfl⟩
        · exact none_some h
        rw [pantomimeref15_Right_l20_s] at h
        refine G_seq ?_
        refine run ?_
        refine G_rd (rd_len 1 rfl els_sl rfl Tryz.underlying25) rfl rfl rfl ?_
        refine run ?_
        refine G_cond rfl (fun g22 => ?_) (fun g22 => ?_)
        · replace h := cond_t g22 h
          refine run ?_
          refine G_seq ?_
          refine run ?_
          obtain ⟨x23, hx23, h⟩ := bind_elim h
          obtain ⟨lx23, ux23, hx23⟩ := getE_elim hx23
          refine G_rd (rd_idx 1 rfl els_sl rfl rfl Tryz.underlying25 size38 lx23 ux23) rfl rfl rfl ?_
          refine G_rd (rd_elemS (us := [.int .i64 x23.Kind, .int .i64 x23.N, .string x23.S]) 1 rfl els_sl rfl hx23 agg38 (fun _ _ _ h => by rw [show _ = _ from h]; rfl)) rfl rfl rfl ?_
          obtain ⟨y24, hy24, h⟩ := bind_elim h
          refine G_opd (op_callR (pantomimeref15_May_ok hy24) call144 rfl (mem_nil) pantomimeref15_May_free) rfl rfl rfl ?_
          rintro _ _ ⟨_, ⟨rfl, rfl⟩, rfl⟩
          refine run ?_
          refine G_cond rfl (fun g25 => ?_) (fun g25 => ?_)
          · replace h := cond_t g25 h
            refine run ?_
            obtain rfl := Option.some.inj h
            exact endG1 rfl rfl (cv_sel [] 3 rfl rfl) ⟨rfl, rfl⟩
          · replace h := cond_f g25 h
            refine run ?_
            obtain ⟨q26, h⟩ := req_elim h
            refine G_ev (ev_add rfl rfl q26.1 q26.2) rfl rfl rfl ?_
            refine run ?_
            exact ⟨m20, _, _, Nat.lt_succ_self _, ⟨p21 + 1, h, rfl, rfl⟩, sub_cons rfl (sub_cons rfl (sub_cons rfl sub_nil)), cv_sel [0, 1, 2] 3 rfl rfl⟩
        · replace h := cond_f g22 h
          refine run ?_
          exact ⟨_, _, ⟨h, rfl, rfl⟩, sub_cons rfl (sub_cons rfl sub_nil), cv_sel [0, 1, 2] 3 rfl rfl⟩
      · rintro _ _ ⟨h, rfl, rfl⟩
        refine run ?_
        refine G_rd (rd_boxS (us := [.int .i64 a0.Kind, .int .i64 a0.Shape, .int .i64 a0.Flags, .int .i64 a0.Age, .slice A1 n1 c1, .slice A2 n2 c2]) 2 rfl rfl agg32 rfl) rfl rfl rfl ?_
        obtain ⟨y27, hy27, h⟩ := bind_elim h
        refine G_opd (op_callR (pantomimeref15_slots_ok hy27) call145 rfl (mem_cons (lent_ro (i := 0) rfl rfl) (mem_cons (lent_ro (i := 1) rfl rfl) mem_nil)) pantomimeref15_slots_free) rfl rfl rfl ?_
        rintro _ _ ⟨_, ⟨rfl, rfl⟩, rfl⟩
        refine run ?_
        obtain ⟨b28, hb28, h⟩ := bind_elim h
        refine G_segb 3 71 b28 ?_ ?_
        · clear h
          refine G_case 68 rfl (fun g28 => ?_) (fun g28 => ?_)
          · have h := cond_t g28 hb28
            refine G_rd (rd_boxS (us := [.int .i64 a0.Kind, .int .i64 a0.Shape, .int .i64 a0.Flags, .int .i64 a0.Age, .slice A1 n1 c1, .slice A2 n2 c2]) 2 rfl rfl agg32 rfl) rfl (g_tt g28 rfl) rfl ?_
            obtain ⟨y29, hy29, h⟩ := bind_elim h
            refine G_opd (op_callR (pantomimeref15_more_ok hy29) call146 rfl (mem_cons (lent_ro (i := 0) rfl rfl) (mem_cons (lent_ro (i := 1) rfl rfl) mem_nil)) pantomimeref15_more_free) rfl (g_tt g28 rfl) rfl ?_
            rintro _ _ ⟨_, ⟨rfl, rfl⟩, rfl⟩
            refine run ?_
            obtain rfl := Option.some.inj h
            exact G_joined (sub_cons rfl (sub_skip (sub_skip (sub_skip sub_refl rfl) rfl) rfl)) (cv_sel [0, 1, 2] 3 rfl rfl)
          · have h := cond_f g28 hb28
            refine run ?_
            obtain rfl := Option.some.inj h
            exact G_joined (sub_cons rfl (sub_skip (sub_skip (sub_skip sub_refl rfl) rfl) rfl)) (cv_sel [0, 1, 2] 3 rfl rfl)
        refine run ?_
        obtain rfl := Option.some.inj h
        exact endG1 rfl rfl (cv_sel [] 3 rfl rfl) ⟨rfl, rfl⟩
theorem pantomimeref15_Right_free {r : Bool} : ∀ v post, ((fun (u : Value) (post : List Chunk) => u = .bool r ∧ post = [])) v post → ∀ c ∈ post, Free c := by
  rintro _ _ ⟨rfl, rfl⟩; exact mem_nil
def pantomimeref15_has_O (N : Nat) (a0 : DValue) : Option Bool :=
  (bif decide (a0.Kind = 7) then (some true) else (some (decide (a0.Kind = 9)))).bind fun b2 => some b2
theorem pantomimeref15_has_ok {N : Nat} {a0 : DValue} {r : Bool} (h : pantomimeref15_has_O N a0 = some r) : Okc Tryz.prog 147 [.agg #[.int .i64 a0.Kind, .int .i64 a0.N, .string a0.S]] ([]) (fun (u : Value) (post : List Chunk) => u = .bool r ∧ post = []) := by
  refine ok_E Tryz.func147 rfl rfl ?_
  simp only [envOf]
  refine run ?_
  refine G_opd (op_box rfl rfl) rfl rfl rfl ?_
  rintro _ _ ⟨B1, rfl, rfl⟩
  refine run ?_
  obtain ⟨b2, hb2, h⟩ := bind_elim h
  refine G_segb 4 10 b2 ?_ ?_
  · clear h
    refine G_case 6 rfl (fun g2 => ?_) (fun g2 => ?_)
    · have h := cond_t g2 hb2
      refine run ?_
      obtain rfl := Option.some.inj h
      exact G_joined (sub_cons rfl (sub_skip (sub_skip (sub_skip (sub_skip sub_refl rfl) rfl) rfl) rfl)) (cv_sel [0] 1 rfl rfl)
    · have h := cond_f g2 hb2
      refine run ?_
      obtain rfl := Option.some.inj h
      exact G_joined (sub_cons rfl (sub_skip (sub_skip (sub_skip (sub_skip sub_refl rfl) rfl) rfl) rfl)) (cv_sel [0] 1 rfl rfl)
  refine run ?_
  obtain rfl := Option.some.inj h
  exact endG1 rfl rfl (cv_sel [] 1 rfl rfl) ⟨rfl, rfl⟩
theorem pantomimeref15_has_free {r : Bool} : ∀ v post, ((fun (u : Value) (post : List Chunk) => u = .bool r ∧ post = [])) v post → ∀ c ∈ post, Free c := by
  rintro _ _ ⟨rfl, rfl⟩; exact mem_nil
def pantomimeref15_weak_O (N : Nat) (a0 : Int) (a1 : Int) : Option Bool :=
  (bif decide (a0 = 8) then (some true) else ((bif decide (a0 = 10) then (some (decide (0 < a1))) else (some false)).bind fun b2 => (bif b2 then (req (in64 (a1 - 1)) (some (decide (((a1 - 1).tmod 4).tmod 2 = 0)))) else (some false)).bind fun b3 => some b3)).bind fun b1 => some b1
theorem pantomimeref15_weak_ok {N : Nat} {a0 : Int} {a1 : Int} {r : Bool} (h : pantomimeref15_weak_O N a0 a1 = some r) : Okc Tryz.prog 148 [.int .i64 a0, .int .i64 a1] ([]) (fun (u : Value) (post : List Chunk) => u = .bool r ∧ post = []) := by
  refine ok_E Tryz.func148 rfl rfl ?_
  simp only [envOf]
  refine run ?_
  obtain ⟨b1, hb1, h⟩ := bind_elim h
  refine G_segb 14 21 b1 ?_ ?_
  · clear h
    refine G_case 7 rfl (fun g1 => ?_) (fun g1 => ?_)
    · have h := cond_t g1 hb1
      refine run ?_
      obtain rfl := Option.some.inj h
      exact G_joined (sub_cons rfl (sub_skip (sub_skip (sub_skip (sub_skip (sub_skip (sub_skip (sub_skip (sub_skip (sub_skip (sub_skip (sub_skip (sub_skip (sub_skip (sub_skip sub_refl rfl) rfl) rfl) rfl) rfl) rfl) rfl) rfl) rfl) rfl) rfl) rfl) rfl) rfl)) (cv_sel [] 0 rfl rfl)
    · have h := cond_f g1 hb1
      refine run ?_
      obtain ⟨b2, hb2, h⟩ := bind_elim h
      refine G_segb 3 13 b2 ?_ ?_
      · clear h
        refine G_case 10 rfl (fun g2 => ?_) (fun g2 => ?_)
        · have h := cond_t g2 hb2
          refine run ?_
          obtain rfl := Option.some.inj h
          exact G_joined (sub_cons rfl (sub_skip (sub_skip (sub_skip sub_refl rfl) rfl) rfl)) (cv_sel [] 0 rfl rfl)
        · have h := cond_f g2 hb2
          refine run ?_
          obtain rfl := Option.some.inj h
          exact G_joined (sub_cons rfl (sub_skip (sub_skip (sub_skip sub_refl rfl) rfl) rfl)) (cv_sel [] 0 rfl rfl)
      refine run ?_
      obtain ⟨b3, hb3, h⟩ := bind_elim h
      refine G_segb 6 20 b3 ?_ ?_
      · clear h
        refine G_case 14 rfl (fun g3 => ?_) (fun g3 => ?_)
        · have h := cond_t g3 hb3
          refine run ?_
          obtain ⟨q4, h⟩ := req_elim h
          refine G_ev (ev_sub rfl rfl q4.1 q4.2) rfl (g_tt g3 rfl) rfl ?_
          refine G_ev (ev_rem rfl rfl (by decide)) rfl (g_tt g3 rfl) rfl ?_
          refine G_ev (ev_rem rfl rfl (by decide)) rfl (g_tt g3 rfl) rfl ?_
          refine run ?_
          obtain rfl := Option.some.inj h
          exact G_joined (sub_cons rfl (sub_skip (sub_skip (sub_skip (sub_skip (sub_skip (sub_skip sub_refl rfl) rfl) rfl) rfl) rfl) rfl)) (cv_sel [] 0 rfl rfl)
        · have h := cond_f g3 hb3
          refine run ?_
          obtain rfl := Option.some.inj h
          exact G_joined (sub_cons rfl (sub_skip (sub_skip (sub_skip (sub_skip (sub_skip (sub_skip sub_refl rfl) rfl) rfl) rfl) rfl) rfl)) (cv_sel [] 0 rfl rfl)
      refine run ?_
      obtain rfl := Option.some.inj h
      exact G_joined (sub_cons rfl (sub_skip (sub_skip (sub_skip (sub_skip (sub_skip (sub_skip (sub_skip sub_refl rfl) rfl) rfl) rfl) rfl) rfl) rfl)) (cv_sel [] 0 rfl rfl)
  refine run ?_
  obtain rfl := Option.some.inj h
  exact endG1 rfl rfl (cv_sel [] 0 rfl rfl) ⟨rfl, rfl⟩
theorem pantomimeref15_weak_free {r : Bool} : ∀ v post, ((fun (u : Value) (post : List Chunk) => u = .bool r ∧ post = [])) v post → ∀ c ∈ post, Free c := by
  rintro _ _ ⟨rfl, rfl⟩; exact mem_nil
def pantomimeref15_Leads_j21 (N : Nat) (p22 : (List Int)) : Option (List Int) :=
  some p22
def pantomimeref15_Leads_j27 (N : Nat) (kb23 : (List Int) → Int → Option (List Int)) (p25 : Int) (a0 : DCell) (p28 : (List Int)) : Option (List Int) :=
  req (in64 (p25 + 1)) (kb23 p28 (p25 + 1))
def pantomimeref15_Leads_l23 (N : Nat) (a0 : DCell) : Nat → (List Int) → Int → Option (List Int)
  | 0, _, _ => none
  | m23 + 1, p24, p25 => bif decide (p25 < (a0.More.length : Int)) then ((getE a0.More p25).bind fun x29 => (pantomimeref15_has_O N x29).bind fun y30 => (bif y30 then ((pantomimeref15_weak_O N a0.Kind p25).bind fun y32 => some (!y32)) else (some false)).bind fun b31 => bif b31 then ((getE a0.More p25).bind fun x34 => req (fitsL (p24.length + ([x34.N] : List Int).length)) (pantomimeref15_Leads_j27 N (pantomimeref15_Leads_l23 N a0 m23) p25 a0 (p24 ++ ([x34.N] : List Int)))) else (pantomimeref15_Leads_j27 N (pantomimeref15_Leads_l23 N a0 m23) p25 a0 p24)) else (pantomimeref15_Leads_j21 N p24)
theorem pantomimeref15_Leads_l23_s {N m23 : Nat} {a0 : DCell} {p24 : (List Int)} {p25 : Int} : pantomimeref15_Leads_l23 N a0 (m23 + 1) p24 p25 = bif decide (p25 < (a0.More.length : Int)) then ((getE a0.More p25).bind fun x29 => (pantomimeref15_has_O N x29).bind fun y30 => (bif y30 then ((pantomimeref15_weak_O N a0.Kind p25).bind fun y32 => some (!y32)) else (some false)).bind fun b31 => bif b31 then ((getE a0.More p25).bind fun x34 => req (fitsL (p24.length + ([x34.N] : List Int).length)) (pantomimeref15_Leads_j27 N (pantomimeref15_Leads_l23 N a0 m23) p25 a0 (p24 ++ ([x34.N] : List Int)))) else (pantomimeref15_Leads_j27 N (pantomimeref15_Leads_l23 N a0 m23) p25 a0 p24)) else (pantomimeref15_Leads_j21 N p24) := rfl
def pantomimeref15_Leads_j4 (N : Nat) (a0 : DCell) (p5 : (List Int)) : Option (List Int) :=
  pantomimeref15_Leads_l23 N a0 N p5 0
def pantomimeref15_Leads_j11 (N : Nat) (kb6 : (List Int) → Int → Option (List Int)) (p8 : Int) (a0 : DCell) (p12 : (List Int)) : Option (List Int) :=
  req (in64 (p8 + 1)) (kb6 p12 (p8 + 1))
def pantomimeref15_Leads_l6 (N : Nat) (a0 : DCell) : Nat → (List Int) → Int → Option (List Int)
  | 0, _, _ => none
  | m6 + 1, p7, p8 => bif decide (p8 < (a0.Slots.length : Int)) then ((getE a0.Slots p8).bind fun x13 => (pantomimeref15_has_O N x13).bind fun y14 => bif y14 then ((getE a0.Slots p8).bind fun x16 => req (fitsL (p7.length + ([x16.N] : List Int).length)) (pantomimeref15_Leads_j11 N (pantomimeref15_Leads_l6 N a0 m6) p8 a0 (p7 ++ ([x16.N] : List Int)))) else (pantomimeref15_Leads_j11 N (pantomimeref15_Leads_l6 N a0 m6) p8 a0 p7)) else (pantomimeref15_Leads_j4 N a0 p7)
theorem pantomimeref15_Leads_l6_s {N m6 : Nat} {a0 : DCell} {p7 : (List Int)} {p8 : Int} : pantomimeref15_Leads_l6 N a0 (m6 + 1) p7 p8 = bif decide (p8 < (a0.Slots.length : Int)) then ((getE a0.Slots p8).bind fun x13 => (pantomimeref15_has_O N x13).bind fun y14 => bif y14 then ((getE a0.Slots p8).bind fun x16 => req (fitsL (p7.length + ([x16.N] : List Int).length)) (pantomimeref15_Leads_j11 N (pantomimeref15_Leads_l6 N a0 m6) p8 a0 (p7 ++ ([x16.N] : List Int)))) else (pantomimeref15_Leads_j11 N (pantomimeref15_Leads_l6 N a0 m6) p8 a0 p7)) else (pantomimeref15_Leads_j4 N a0 p7) := rfl
def pantomimeref15_Leads_O (N : Nat) (a0 : DCell) : Option (List Int) :=
  pantomimeref15_Leads_l6 N a0 N [] 0
theorem pantomimeref15_Leads_ok {N : Nat} {a0 : DCell} {r : (List Int)} (h : pantomimeref15_Leads_O N a0 = some r) {A1 : Option Addr} {n1 c1 : Nat} {A2 : Option Addr} {n2 c2 : Nat} : Okc Tryz.prog 93 [.agg #[.int .i64 a0.Kind, .int .i64 a0.Shape, .int .i64 a0.Flags, .int .i64 a0.Age, .slice A1 n1 c1, .slice A2 n2 c2]] ([slC rDValue (.slice A1 n1 c1) a0.Slots, slC rDValue (.slice A2 n2 c2) a0.More]) (fun (u : Value) (post : List Chunk) => ∃ A0 n0 c0, u = .slice A0 n0 c0 ∧ post = [ownC (rInt .i64) 3 (.slice A0 n0 c0) r]) := by
  refine ok_E Tryz.func93 rfl rfl ?_
  simp only [envOf]
  refine run ?_
  refine G_opd (op_box rfl rfl) rfl rfl rfl ?_
  rintro _ _ ⟨B3, rfl, rfl⟩
  refine run ?_
  refine G_joinF (fun s L => ∃ (p5 : (List Int)) (A5 : Option Addr) (n5 c5 : Nat), pantomimeref15_Leads_j4 N a0 p5 = some r ∧ s = [(1, .pointer (some ⟨B3, 0, none⟩)), (2, .slice none 0 0), (3, .slice A5 n5 c5)] ∧ L = [ownC (rInt .i64) 3 (.slice A5 n5 c5) p5, slC rDValue (.slice A1 n1 c1) a0.Slots, slC rDValue (.slice A2 n2 c2) a0.More, boxC B3 32 [.int .i64 a0.Kind, .int .i64 a0.Shape, .int .i64 a0.Flags, .int .i64 a0.Age, .slice A1 n1 c1, .slice A2 n2 c2]]) ?_ ?_
  · refine run ?_
    refine G_loopF (fun m s L => ∃ (p7 : (List Int)) (p8 : Int) (A7 : Option Addr) (n7 c7 : Nat), pantomimeref15_Leads_l6 N a0 m p7 p8 = some r ∧ s = [(1, .pointer (some ⟨B3, 0, none⟩)), (2, .slice none 0 0), (3, .slice A7 n7 c7), (4, .int .i64 p8)] ∧ L = [ownC (rInt .i64) 3 (.slice A7 n7 c7) p7, slC rDValue (.slice A1 n1 c1) a0.Slots, slC rDValue (.slice A2 n2 c2) a0.More, boxC B3 32 [.int .i64 a0.Kind, .int .i64 a0.Shape, .int .i64 a0.Flags, .int .i64 a0.Age, .slice A1 n1 c1, .slice A2 n2 c2]]) N _ _ ⟨[], 0, none, 0, 0, h, rfl, rfl⟩ (sub_cons rfl (sub_cons rfl (sub_cons rfl (sub_cons rfl sub_nil)))) ((cv_nil (rInt .i64) 3 _).trans (cv_sel [0, 2, 3, 1] 4 rfl rfl)) ?_
    rintro (_ | m6) _ _ ⟨p7, p8, A7, n7, c7, h, rfl, rfl⟩
    · exact none_some h
    rw [pantomimeref15_Leads_l6_s] at h
    refine G_seq ?_
    refine run ?_
    refine G_rd (rd_len 1 rfl els_sl rfl Tryz.underlying25) rfl rfl rfl ?_
    refine run ?_
    refine G_cond rfl (fun g10 => ?_) (fun g10 => ?_)
    · replace h := cond_t g10 h
      refine run ?_
      refine G_joinF (fun s L => ∃ (p12 : (List Int)) (A12 : Option Addr) (n12 c12 : Nat), pantomimeref15_Leads_j11 N (pantomimeref15_Leads_l6 N a0 m6) p8 a0 p12 = some r ∧ s = [(1, .pointer (some ⟨B3, 0, none⟩)), (2, .slice none 0 0), (3, .slice A12 n12 c12), (4, .int .i64 p8)] ∧ L = [ownC (rInt .i64) 3 (.slice A12 n12 c12) p12, slC rDValue (.slice A1 n1 c1) a0.Slots, slC rDValue (.slice A2 n2 c2) a0.More, boxC B3 32 [.int .i64 a0.Kind, .int .i64 a0.Shape, .int .i64 a0.Flags, .int .i64 a0.Age, .slice A1 n1 c1, .slice A2 n2 c2]]) ?_ ?_
      · refine run ?_
        obtain ⟨x13, hx13, h⟩ := bind_elim h
        obtain ⟨lx13, ux13, hx13⟩ := getE_elim hx13
        refine G_rd (rd_idx 1 rfl els_sl rfl rfl Tryz.underlying25 size38 lx13 ux13) rfl rfl rfl ?_
        refine G_rd (rd_elemS (us := [.int .i64 x13.Kind, .int .i64 x13.N, .string x13.S]) 1 rfl els_sl rfl hx13 agg38 (fun _ _ _ h => by rw [show _ = _ from h]; rfl)) rfl rfl rfl ?_
        obtain ⟨y14, hy14, h⟩ := bind_elim h
        refine G_opd (op_callR (pantomimeref15_has_ok hy14) call147 rfl (mem_nil) pantomimeref15_has_free) rfl rfl rfl ?_
        rintro _ _ ⟨_, ⟨rfl, rfl⟩, rfl⟩
        refine run ?_
        refine G_cond rfl (fun g15 => ?_) (fun g15 => ?_)
        · replace h := cond_t g15 h
          refine run ?_
          obtain ⟨x16, hx16, h⟩ := bind_elim h
          obtain ⟨lx16, ux16, hx16⟩ := getE_elim hx16
          refine G_rd (rd_idx 1 rfl els_sl rfl rfl Tryz.underlying25 size38 lx16 ux16) rfl rfl rfl ?_
          refine G_rd (rd_fa 1 rfl els_sl rfl (toNat_lt lx16 ux16) fa_38_1) rfl rfl rfl ?_
          refine G_rd (rd_elem1 (u := .int .i64 x16.N) 1 rfl els_sl rfl hx16 one3 (fun _ _ _ h => by rw [show _ = _ from h]; rfl)) rfl rfl rfl ?_
          refine G_opd (op_bslice (R := (rInt .i64)) (vss := [[.int .i64 x16.N]]) (xs := [x16.N]) rfl (bsl_35_1 _) rfl rfl (fun _ _ hr => .cons rfl All2.nil)) rfl rfl rfl ?_
          rintro _ _ ⟨A17, n17, c17, rfl, rfl⟩
          obtain ⟨q18, h⟩ := req_elim h
          refine G_opd (op_append 1 0 rfl rfl els_own rfl rfl Tryz.underlying35 zb3 rfl rfl q18) rfl rfl rfl ?_
          rintro _ _ ⟨A19, n19, c19, rfl, rfl⟩
          refine G_norm ([ownC (rInt .i64) 3 (.slice A17 n17 c17) ([x16.N] : List Int), ownC (rInt .i64) 3 (.slice A19 n19 c19) (p7 ++ ([x16.N] : List Int)), slC rDValue (.slice A1 n1 c1) a0.Slots, slC rDValue (.slice A2 n2 c2) a0.More, boxC B3 32 [.int .i64 a0.Kind, .int .i64 a0.Shape, .int .i64 a0.Flags, .int .i64 a0.Age, .slice A1 n1 c1, .slice A2 n2 c2]]) rfl ?_
          refine run ?_
          exact ⟨_, _, ⟨p7 ++ ([x16.N] : List Int), A19, n19, c19, h, rfl, rfl⟩, sub_cons rfl (sub_cons rfl (sub_cons rfl (sub_cons rfl sub_nil))), cv_sel [1, 2, 3, 4] 5 rfl rfl⟩
        · replace h := cond_f g15 h
          refine run ?_
          exact ⟨_, _, ⟨p7, A7, n7, c7, h, rfl, rfl⟩, sub_cons rfl (sub_cons rfl (sub_cons rfl (sub_cons rfl sub_nil))), cv_sel [0, 1, 2, 3] 4 rfl rfl⟩
      · rintro _ _ ⟨p12, A12, n12, c12, h, rfl, rfl⟩
        refine run ?_
        obtain ⟨q20, h⟩ := req_elim h
        refine G_ev (ev_add rfl rfl q20.1 q20.2) rfl rfl rfl ?_
        refine run ?_
        exact ⟨m6, _, _, Nat.lt_succ_self _, ⟨p12, p8 + 1, A12, n12, c12, h, rfl, rfl⟩, sub_cons rfl (sub_cons rfl (sub_cons rfl (sub_cons rfl sub_nil))), cv_sel [0, 1, 2, 3] 4 rfl rfl⟩
    · replace h := cond_f g10 h
      refine run ?_
      exact ⟨_, _, ⟨p7, A7, n7, c7, h, rfl, rfl⟩, sub_cons rfl (sub_cons rfl (sub_cons rfl sub_nil)), cv_sel [0, 1, 2, 3] 4 rfl rfl⟩
  · rintro _ _ ⟨p5, A5, n5, c5, h, rfl, rfl⟩
    refine G_joinF (fun s L => ∃ (p22 : (List Int)) (A22 : Option Addr) (n22 c22 : Nat), pantomimeref15_Leads_j21 N p22 = some r ∧ s = [(2, .slice none 0 0), (3, .slice A22 n22 c22)] ∧ L = [ownC (rInt .i64) 3 (.slice A22 n22 c22) p22]) ?_ ?_
    · refine run ?_
      refine G_loopF (fun m s L => ∃ (p24 : (List Int)) (p25 : Int) (A24 : Option Addr) (n24 c24 : Nat), pantomimeref15_Leads_l23 N a0 m p24 p25 = some r ∧ s = [(1, .pointer (some ⟨B3, 0, none⟩)), (2, .slice none 0 0), (3, .slice A24 n24 c24), (5, .int .i64 p25)] ∧ L = [ownC (rInt .i64) 3 (.slice A24 n24 c24) p24, slC rDValue (.slice A1 n1 c1) a0.Slots, slC rDValue (.slice A2 n2 c2) a0.More, boxC B3 32 [.int .i64 a0.Kind, .int .i64 a0.Shape, .int .i64 a0.Flags, .int .i64 a0.Age, .slice A1 n1 c1, .slice A2 n2 c2]]) N _ _ ⟨p5, 0, A5, n5, c5, h, rfl, rfl⟩ (sub_cons rfl (sub_cons rfl (sub_cons rfl (sub_cons rfl sub_nil)))) (cv_sel [0, 1, 2, 3] 4 rfl rfl) ?_
      rintro (_ | m23) _ _ ⟨p24, p25, A24, n24, c24, h, rfl, rfl⟩
      · exact none_some h
      rw [pantomimeref15_Leads_l23_s] at h
      refine G_seq ?_
      refine run ?_
      refine G_rd (rd_len 2 rfl els_sl rfl Tryz.underlying25) rfl rfl rfl ?_
      refine run ?_
      refine G_cond rfl (fun g26 => ?_) (fun g26 => ?_)
      · replace h := cond_t g26 h
        refine run ?_
        refine G_joinF (fun s L => ∃ (p28 : (List Int)) (A28 : Option Addr) (n28 c28 : Nat), pantomimeref15_Leads_j27 N (pantomimeref15_Leads_l23 N a0 m23) p25 a0 p28 = some r ∧ s = [(1, .pointer (some ⟨B3, 0, none⟩)), (2, .slice none 0 0), (3, .slice A28 n28 c28), (5, .int .i64 p25)] ∧ L = [ownC (rInt .i64) 3 (.slice A28 n28 c28) p28, slC rDValue (.slice A1 n1 c1) a0.Slots, slC rDValue (.slice A2 n2 c2) a0.More, boxC B3 32 [.int .i64 a0.Kind, .int .i64 a0.Shape, .int .i64 a0.Flags, .int .i64 a0.Age, .slice A1 n1 c1, .slice A2 n2 c2]]) ?_ ?_
        · refine run ?_
          obtain ⟨x29, hx29, h⟩ := bind_elim h
          obtain ⟨lx29, ux29, hx29⟩ := getE_elim hx29
          refine G_rd (rd_idx 2 rfl els_sl rfl rfl Tryz.underlying25 size38 lx29 ux29) rfl rfl rfl ?_
          refine G_rd (rd_elemS (us := [.int .i64 x29.Kind, .int .i64 x29.N, .string x29.S]) 2 rfl els_sl rfl hx29 agg38 (fun _ _ _ h => by rw [show _ = _ from h]; rfl)) rfl rfl rfl ?_
          obtain ⟨y30, hy30, h⟩ := bind_elim h
          refine G_opd (op_callR (pantomimeref15_has_ok hy30) call147 rfl (mem_nil) pantomimeref15_has_free) rfl rfl rfl ?_
          rintro _ _ ⟨_, ⟨rfl, rfl⟩, rfl⟩
          refine run ?_
          obtain ⟨b31, hb31, h⟩ := bind_elim h
          refine G_segb 6 47 b31 ?_ ?_
          · clear h
            refine G_case 41 rfl (fun g31 => ?_) (fun g31 => ?_)
            · have h := cond_t g31 hb31
              refine run ?_
              obtain ⟨y32, hy32, h⟩ := bind_elim h
              refine G_opd (op_callR (pantomimeref15_weak_ok hy32) call148 rfl (mem_nil) pantomimeref15_weak_free) rfl (g_tt g31 rfl) rfl ?_
              rintro _ _ ⟨_, ⟨rfl, rfl⟩, rfl⟩
              refine run ?_
              obtain rfl := Option.some.inj h
              exact G_joined (sub_cons rfl (sub_skip (sub_skip (sub_skip (sub_skip (sub_skip (sub_skip sub_refl rfl) rfl) rfl) rfl) rfl) rfl)) (cv_sel [0, 1, 2, 3] 4 rfl rfl)
            · have h := cond_f g31 hb31
              refine run ?_
              obtain rfl := Option.some.inj h
              exact G_joined (sub_cons rfl (sub_skip (sub_skip (sub_skip (sub_skip (sub_skip (sub_skip sub_refl rfl) rfl) rfl) rfl) rfl) rfl)) (cv_sel [0, 1, 2, 3] 4 rfl rfl)
          refine run ?_
          refine G_cond rfl (fun g33 => ?_) (fun g33 => ?_)
          · replace h := cond_t g33 h
            refine run ?_
            obtain ⟨x34, hx34, h⟩ := bind_elim h
            obtain ⟨lx34, ux34, hx34⟩ := getE_elim hx34
            refine G_rd (rd_idx 2 rfl els_sl rfl rfl Tryz.underlying25 size38 lx34 ux34) rfl rfl rfl ?_
            refine G_rd (rd_fa 2 rfl els_sl rfl (toNat_lt lx34 ux34) fa_38_1) rfl rfl rfl ?_
            refine G_rd (rd_elem1 (u := .int .i64 x34.N) 2 rfl els_sl rfl hx34 one3 (fun _ _ _ h => by rw [show _ = _ from h]; rfl)) rfl rfl rfl ?_
            refine G_opd (op_bslice (R := (rInt .i64)) (vss := [[.int .i64 x34.N]]) (xs := [x34.N]) rfl (bsl_35_1 _) rfl rfl (fun _ _ hr => .cons rfl All2.nil)) rfl rfl rfl ?_
            rintro _ _ ⟨A35, n35, c35, rfl, rfl⟩
            obtain ⟨q36, h⟩ := req_elim h
            refine G_opd (op_append 1 0 rfl rfl els_own rfl rfl Tryz.underlying35 zb3 rfl rfl q36) rfl rfl rfl ?_
            rintro _ _ ⟨A37, n37, c37, rfl, rfl⟩
            refine G_norm ([ownC (rInt .i64) 3 (.slice A35 n35 c35) ([x34.N] : List Int), ownC (rInt .i64) 3 (.slice A37 n37 c37) (p24 ++ ([x34.N] : List Int)), slC rDValue (.slice A1 n1 c1) a0.Slots, slC rDValue (.slice A2 n2 c2) a0.More, boxC B3 32 [.int .i64 a0.Kind, .int .i64 a0.Shape, .int .i64 a0.Flags, .int .i64 a0.Age, .slice A1 n1 c1, .slice A2 n2 c2]]) rfl ?_
            refine run ?_
            exact ⟨_, _, ⟨p24 ++ ([x34.N] : List Int), A37, n37, c37, h, rfl, rfl⟩, sub_cons rfl (sub_cons rfl (sub_cons rfl (sub_cons rfl sub_nil))), cv_sel [1, 2, 3, 4] 5 rfl rfl⟩
          · replace h := cond_f g33 h
            refine run ?_
            exact ⟨_, _, ⟨p24, A24, n24, c24, h, rfl, rfl⟩, sub_cons rfl (sub_cons rfl (sub_cons rfl (sub_cons rfl sub_nil))), cv_sel [0, 1, 2, 3] 4 rfl rfl⟩
        · rintro _ _ ⟨p28, A28, n28, c28, h, rfl, rfl⟩
          refine run ?_
          obtain ⟨q38, h⟩ := req_elim h
          refine G_ev (ev_add rfl rfl q38.1 q38.2) rfl rfl rfl ?_
          refine run ?_
          exact ⟨m23, _, _, Nat.lt_succ_self _, ⟨p28, p25 + 1, A28, n28, c28, h, rfl, rfl⟩, sub_cons rfl (sub_cons rfl (sub_cons rfl (sub_cons rfl sub_nil))), cv_sel [0, 1, 2, 3] 4 rfl rfl⟩
      · replace h := cond_f g26 h
        refine run ?_
        exact ⟨_, _, ⟨p24, A24, n24, c24, h, rfl, rfl⟩, sub_cons rfl (sub_cons rfl sub_nil), cv_sel [0] 4 rfl rfl⟩
    · rintro _ _ ⟨p22, A22, n22, c22, h, rfl, rfl⟩
      refine run ?_
      obtain rfl := Option.some.inj h
      exact endG1 rfl rfl (cv_sel [0] 1 rfl rfl) ⟨_, _, _, rfl, rfl⟩
theorem pantomimeref15_Leads_free {r : (List Int)} : ∀ v post, ((fun (u : Value) (post : List Chunk) => ∃ A0 n0 c0, u = .slice A0 n0 c0 ∧ post = [ownC (rInt .i64) 3 (.slice A0 n0 c0) r])) v post → ∀ c ∈ post, Free c := by
  rintro _ _ ⟨_, _, _, rfl, rfl⟩; exact mem_cons free_own (mem_nil)
def pantomimeref19_addresses_j3 (N : Nat) (p4 : (List Int)) : Option (List Int) :=
  some p4
def pantomimeref19_addresses_j9 (N : Nat) (kb5 : (List Int) → Int → Option (List Int)) (p7 : Int) (a0 : (List DValue)) (p10 : (List Int)) : Option (List Int) :=
  req (in64 (p7 + 1)) (kb5 p10 (p7 + 1))
def pantomimeref19_addresses_l5 (N : Nat) (a0 : (List DValue)) : Nat → (List Int) → Int → Option (List Int)
  | 0, _, _ => none
  | m5 + 1, p6, p7 => bif decide (p7 < (a0.length : Int)) then ((getE a0 p7).bind fun x11 => (bif decide (x11.Kind = 7) then (some true) else ((getE a0 p7).bind fun x13 => some (decide (x13.Kind = 9)))).bind fun b12 => bif b12 then ((getE a0 p7).bind fun x15 => req (fitsL (p6.length + ([x15.N] : List Int).length)) (pantomimeref19_addresses_j9 N (pantomimeref19_addresses_l5 N a0 m5) p7 a0 (p6 ++ ([x15.N] : List Int)))) else (pantomimeref19_addresses_j9 N (pantomimeref19_addresses_l5 N a0 m5) p7 a0 p6)) else (pantomimeref19_addresses_j3 N p6)
theorem pantomimeref19_addresses_l5_s {N m5 : Nat} {a0 : (List DValue)} {p6 : (List Int)} {p7 : Int} : pantomimeref19_addresses_l5 N a0 (m5 + 1) p6 p7 = bif decide (p7 < (a0.length : Int)) then ((getE a0 p7).bind fun x11 => (bif decide (x11.Kind = 7) then (some true) else ((getE a0 p7).bind fun x13 => some (decide (x13.Kind = 9)))).bind fun b12 => bif b12 then ((getE a0 p7).bind fun x15 => req (fitsL (p6.length + ([x15.N] : List Int).length)) (pantomimeref19_addresses_j9 N (pantomimeref19_addresses_l5 N a0 m5) p7 a0 (p6 ++ ([x15.N] : List Int)))) else (pantomimeref19_addresses_j9 N (pantomimeref19_addresses_l5 N a0 m5) p7 a0 p6)) else (pantomimeref19_addresses_j3 N p6) := rfl
def pantomimeref19_addresses_O (N : Nat) (a0 : (List DValue)) : Option (List Int) :=
  pantomimeref19_addresses_l5 N a0 N ([] : List Int) 0
theorem pantomimeref19_addresses_ok {N : Nat} {a0 : (List DValue)} {r : (List Int)} (h : pantomimeref19_addresses_O N a0 = some r) {A1 : Option Addr} {n1 c1 : Nat} : Okc Tryz.prog 59 [.slice A1 n1 c1] ([slC rDValue (.slice A1 n1 c1) a0]) (fun (u : Value) (post : List Chunk) => ∃ A0 n0 c0, u = .slice A0 n0 c0 ∧ post = [ownC (rInt .i64) 3 (.slice A0 n0 c0) r]) := by
  refine ok_E Tryz.func59 rfl rfl ?_
  simp only [envOf]
  refine run ?_
  refine G_opd (op_bslice (R := (rInt .i64)) (vss := []) (xs := []) rfl (bsl_35_0) rfl rfl (fun _ _ hr => All2.nil)) rfl rfl rfl ?_
  rintro _ _ ⟨A2, n2, c2, rfl, rfl⟩
  refine run ?_
  refine G_joinF (fun s L => ∃ (p4 : (List Int)) (A4 : Option Addr) (n4 c4 : Nat), pantomimeref19_addresses_j3 N p4 = some r ∧ s = [(2, .slice none 0 0), (3, .slice A4 n4 c4)] ∧ L = [ownC (rInt .i64) 3 (.slice A4 n4 c4) p4]) ?_ ?_
  · refine run ?_
    refine G_loopF (fun m s L => ∃ (p6 : (List Int)) (p7 : Int) (A6 : Option Addr) (n6 c6 : Nat), pantomimeref19_addresses_l5 N a0 m p6 p7 = some r ∧ s = [(0, .slice A1 n1 c1), (2, .slice none 0 0), (3, .slice A6 n6 c6), (4, .int .i64 p7)] ∧ L = [slC rDValue (.slice A1 n1 c1) a0, ownC (rInt .i64) 3 (.slice A6 n6 c6) p6]) N _ _ ⟨([] : List Int), 0, A2, n2, c2, h, rfl, rfl⟩ (sub_cons rfl (sub_cons rfl (sub_cons rfl (sub_cons rfl sub_nil)))) (cv_sel [1, 0] 2 rfl rfl) ?_
    rintro (_ | m5) _ _ ⟨p6, p7, A6, n6, c6, h, rfl, rfl⟩
    · exact none_some h
    rw [pantomimeref19_addresses_l5_s] at h
    refine G_seq ?_
    refine run ?_
    refine G_rd (rd_len 0 rfl els_sl rfl Tryz.underlying25) rfl rfl rfl ?_
    refine run ?_
    refine G_cond rfl (fun g8 => ?_) (fun g8 => ?_)
    · replace h := cond_t g8 h
      refine run ?_
      refine G_joinF (fun s L => ∃ (p10 : (List Int)) (A10 : Option Addr) (n10 c10 : Nat), pantomimeref19_addresses_j9 N (pantomimeref19_addresses_l5 N a0 m5) p7 a0 p10 = some r ∧ s = [(0, .slice A1 n1 c1), (2, .slice none 0 0), (3, .slice A10 n10 c10), (4, .int .i64 p7)] ∧ L = [slC rDValue (.slice A1 n1 c1) a0, ownC (rInt .i64) 3 (.slice A10 n10 c10) p10]) ?_ ?_
      · refine run ?_
        obtain ⟨x11, hx11, h⟩ := bind_elim h
        obtain ⟨lx11, ux11, hx11⟩ := getE_elim hx11
        refine G_rd (rd_idx 0 rfl els_sl rfl rfl Tryz.underlying25 size38 lx11 ux11) rfl rfl rfl ?_
        refine G_rd (rd_fa0 0 rfl els_sl rfl (toNat_lt lx11 ux11) fa_38_0) rfl rfl rfl ?_
        refine G_rd (rd_elem1 (u := .int .i64 x11.Kind) 0 rfl els_sl rfl hx11 one3 (fun _ _ _ h => by rw [show _ = _ from h]; rfl)) rfl rfl rfl ?_
        refine run ?_
        obtain ⟨b12, hb12, h⟩ := bind_elim h
        refine G_segb 7 25 b12 ?_ ?_
        · clear h
          refine G_case 18 rfl (fun g12 => ?_) (fun g12 => ?_)
          · have h := cond_t g12 hb12
            refine run ?_
            obtain rfl := Option.some.inj h
            exact G_joined (sub_cons rfl (sub_skip (sub_skip (sub_skip (sub_skip (sub_skip (sub_skip (sub_skip sub_refl rfl) rfl) rfl) rfl) rfl) rfl) rfl)) (cv_sel [0, 1] 2 rfl rfl)
          · have h := cond_f g12 hb12
            refine run ?_
            obtain ⟨x13, hx13, h⟩ := bind_elim h
            obtain ⟨lx13, ux13, hx13⟩ := getE_elim hx13
            refine G_rd (rd_idx 0 rfl els_sl rfl rfl Tryz.underlying25 size38 lx13 ux13) rfl (g_ff g12 rfl) rfl ?_
            refine G_rd (rd_fa0 0 rfl els_sl rfl (toNat_lt lx13 ux13) fa_38_0) rfl (g_ff g12 rfl) rfl ?_
            refine G_rd (rd_elem1 (u := .int .i64 x13.Kind) 0 rfl els_sl rfl hx13 one3 (fun _ _ _ h => by rw [show _ = _ from h]; rfl)) rfl (g_ff g12 rfl) rfl ?_
            refine run ?_
            obtain rfl := Option.some.inj h
            exact G_joined (sub_cons rfl (sub_skip (sub_skip (sub_skip (sub_skip (sub_skip (sub_skip (sub_skip sub_refl rfl) rfl) rfl) rfl) rfl) rfl) rfl)) (cv_sel [0, 1] 2 rfl rfl)
        refine run ?_
        refine G_cond rfl (fun g14 => ?_) (fun g14 => ?_)
        · replace h := cond_t g14 h
          refine run ?_
          obtain ⟨x15, hx15, h⟩ := bind_elim h
          obtain ⟨lx15, ux15, hx15⟩ := getE_elim hx15
          refine G_rd (rd_idx 0 rfl els_sl rfl rfl Tryz.underlying25 size38 lx15 ux15) rfl rfl rfl ?_
          refine G_rd (rd_fa 0 rfl els_sl rfl (toNat_lt lx15 ux15) fa_38_1) rfl rfl rfl ?_
          refine G_rd (rd_elem1 (u := .int .i64 x15.N) 0 rfl els_sl rfl hx15 one3 (fun _ _ _ h => by rw [show _ = _ from h]; rfl)) rfl rfl rfl ?_
          refine G_opd (op_bslice (R := (rInt .i64)) (vss := [[.int .i64 x15.N]]) (xs := [x15.N]) rfl (bsl_35_1 _) rfl rfl (fun _ _ hr => .cons rfl All2.nil)) rfl rfl rfl ?_
          rintro _ _ ⟨A16, n16, c16, rfl, rfl⟩
          obtain ⟨q17, h⟩ := req_elim h
          refine G_opd (op_append 2 0 rfl rfl els_own rfl rfl Tryz.underlying35 zb3 rfl rfl q17) rfl rfl rfl ?_
          rintro _ _ ⟨A18, n18, c18, rfl, rfl⟩
          refine G_norm ([ownC (rInt .i64) 3 (.slice A16 n16 c16) ([x15.N] : List Int), slC rDValue (.slice A1 n1 c1) a0, ownC (rInt .i64) 3 (.slice A18 n18 c18) (p6 ++ ([x15.N] : List Int))]) rfl ?_
          refine run ?_
          exact ⟨_, _, ⟨p6 ++ ([x15.N] : List Int), A18, n18, c18, h, rfl, rfl⟩, sub_cons rfl (sub_cons rfl (sub_cons rfl (sub_cons rfl sub_nil))), cv_sel [1, 2] 3 rfl rfl⟩
        · replace h := cond_f g14 h
          refine run ?_
          exact ⟨_, _, ⟨p6, A6, n6, c6, h, rfl, rfl⟩, sub_cons rfl (sub_cons rfl (sub_cons rfl (sub_cons rfl sub_nil))), cv_sel [0, 1] 2 rfl rfl⟩
      · rintro _ _ ⟨p10, A10, n10, c10, h, rfl, rfl⟩
        refine run ?_
        obtain ⟨q19, h⟩ := req_elim h
        refine G_ev (ev_add rfl rfl q19.1 q19.2) rfl rfl rfl ?_
        refine run ?_
        exact ⟨m5, _, _, Nat.lt_succ_self _, ⟨p10, p7 + 1, A10, n10, c10, h, rfl, rfl⟩, sub_cons rfl (sub_cons rfl (sub_cons rfl (sub_cons rfl sub_nil))), cv_sel [0, 1] 2 rfl rfl⟩
    · replace h := cond_f g8 h
      refine run ?_
      exact ⟨_, _, ⟨p6, A6, n6, c6, h, rfl, rfl⟩, sub_cons rfl (sub_cons rfl sub_nil), cv_sel [1] 2 rfl rfl⟩
  · rintro _ _ ⟨p4, A4, n4, c4, h, rfl, rfl⟩
    refine run ?_
    obtain rfl := Option.some.inj h
    exact endG1 rfl rfl (cv_sel [0] 1 rfl rfl) ⟨_, _, _, rfl, rfl⟩
theorem pantomimeref19_addresses_free {r : (List Int)} : ∀ v post, ((fun (u : Value) (post : List Chunk) => ∃ A0 n0 c0, u = .slice A0 n0 c0 ∧ post = [ownC (rInt .i64) 3 (.slice A0 n0 c0) r])) v post → ∀ c ∈ post, Free c := by
  rintro _ _ ⟨_, _, _, rfl, rfl⟩; exact mem_cons free_own (mem_nil)
def pantomimeref19_In_j2 (N : Nat) : Option Bool :=
  some false
def pantomimeref19_In_l3 (N : Nat) (a1 : Int) (a0 : (List Int)) : Nat → Int → Option Bool
  | 0, _ => none
  | m3 + 1, p4 => bif decide (p4 < (a0.length : Int)) then ((getE a0 p4).bind fun x6 => bif decide (x6 = a1) then (some true) else (req (in64 (p4 + 1)) ((pantomimeref19_In_l3 N a1 a0 m3) (p4 + 1)))) else (pantomimeref19_In_j2 N)
theorem pantomimeref19_In_l3_s {N m3 : Nat} {a1 : Int} {a0 : (List Int)} {p4 : Int} : pantomimeref19_In_l3 N a1 a0 (m3 + 1) p4 = bif decide (p4 < (a0.length : Int)) then ((getE a0 p4).bind fun x6 => bif decide (x6 = a1) then (some true) else (req (in64 (p4 + 1)) ((pantomimeref19_In_l3 N a1 a0 m3) (p4 + 1)))) else (pantomimeref19_In_j2 N) := rfl
def pantomimeref19_In_O (N : Nat) (a0 : (List Int)) (a1 : Int) : Option Bool :=
  pantomimeref19_In_l3 N a1 a0 N 0
theorem pantomimeref19_In_ok {N : Nat} {a0 : (List Int)} {a1 : Int} {r : Bool} (h : pantomimeref19_In_O N a0 a1 = some r) {A1 : Option Addr} {n1 c1 : Nat} : Okc Tryz.prog 119 [.slice A1 n1 c1, .int .i64 a1] ([slC (rInt .i64) (.slice A1 n1 c1) a0]) (fun (u : Value) (post : List Chunk) => u = .bool r ∧ post = []) := by
  refine ok_E Tryz.func119 rfl rfl ?_
  simp only [envOf]
  refine run ?_
  refine G_joinF (fun s L => pantomimeref19_In_j2 N = some r ∧ s = [(4, .bool false)] ∧ L = []) ?_ ?_
  · refine run ?_
    refine G_loopF (fun m s L => ∃ (p4 : Int), pantomimeref19_In_l3 N a1 a0 m p4 = some r ∧ s = [(0, .slice A1 n1 c1), (1, .int .i64 a1), (4, .bool false), (5, .int .i64 p4)] ∧ L = [slC (rInt .i64) (.slice A1 n1 c1) a0]) N _ _ ⟨0, h, rfl, rfl⟩ (sub_cons rfl (sub_cons rfl (sub_cons rfl (sub_cons rfl sub_nil)))) (cv_sel [0] 1 rfl rfl) ?_
    rintro (_ | m3) _ _ ⟨p4, h, rfl, rfl⟩
    · exact none_some h
    rw [pantomimeref19_In_l3_s] at h
    refine G_seq ?_
    refine run ?_
    refine G_rd (rd_len 0 rfl els_sl rfl Tryz.underlying35) rfl rfl rfl ?_
    refine run ?_
    refine G_cond rfl (fun g5 => ?_) (fun g5 => ?_)
    · replace h := cond_t g5 h
      refine run ?_
      refine G_seq ?_
      refine run ?_
      obtain ⟨x6, hx6, h⟩ := bind_elim h
      obtain ⟨lx6, ux6, hx6⟩ := getE_elim hx6
      refine G_rd (rd_idx 0 rfl els_sl rfl rfl Tryz.underlying35 size3 lx6 ux6) rfl rfl rfl ?_
      refine G_rd (rd_elem1 (u := .int .i64 x6) 0 rfl els_sl rfl hx6 one3 (fun _ _ _ h => by rw [show _ = _ from h]; rfl)) rfl rfl rfl ?_
      refine run ?_
      refine G_cond rfl (fun g7 => ?_) (fun g7 => ?_)
      · replace h := cond_t g7 h
        refine run ?_
        obtain rfl := Option.some.inj h
        exact endG1 rfl rfl (cv_sel [] 1 rfl rfl) ⟨rfl, rfl⟩
      · replace h := cond_f g7 h
        refine run ?_
        obtain ⟨q8, h⟩ := req_elim h
        refine G_ev (ev_add rfl rfl q8.1 q8.2) rfl rfl rfl ?_
        refine run ?_
        exact ⟨m3, _, _, Nat.lt_succ_self _, ⟨p4 + 1, h, rfl, rfl⟩, sub_cons rfl (sub_cons rfl (sub_cons rfl (sub_cons rfl sub_nil))), cv_sel [0] 1 rfl rfl⟩
    · replace h := cond_f g5 h
      refine run ?_
      exact ⟨_, _, ⟨h, rfl, rfl⟩, sub_cons rfl sub_nil, cv_sel [] 1 rfl rfl⟩
  · rintro _ _ ⟨h, rfl, rfl⟩
    refine run ?_
    obtain rfl := Option.some.inj h
    exact endG1 rfl rfl (cv_sel [] 0 rfl rfl) ⟨rfl, rfl⟩
theorem pantomimeref19_In_free {r : Bool} : ∀ v post, ((fun (u : Value) (post : List Chunk) => u = .bool r ∧ post = [])) v post → ∀ c ∈ post, Free c := by
  rintro _ _ ⟨rfl, rfl⟩; exact mem_nil
def pantomimeref19_lay_j6 (N : Nat) (p7 : (List Int)) : Option (List Int) :=
  some p7
def pantomimeref19_lay_j12 (N : Nat) (kb8 : (List Int) → Int → Option (List Int)) (p10 : Int) (a2 : (List Int)) (a0 : DMemory) (p13 : (List Int)) : Option (List Int) :=
  req (in64 (p10 + 1)) (kb8 p13 (p10 + 1))
def pantomimeref19_lay_l8 (N : Nat) (a2 : (List Int)) (a0 : DMemory) : Nat → (List Int) → Int → Option (List Int)
  | 0, _, _ => none
  | m8 + 1, p9, p10 => bif decide (p10 < (a2.length : Int)) then ((getE a2 p10).bind fun x14 => (pantomimeref19_Has_O N a0 x14).bind fun y15 => (bif y15 then ((getE a2 p10).bind fun x17 => (pantomimeref19_In_O N p9 x17).bind fun y18 => some (!y18)) else (some false)).bind fun b16 => bif b16 then ((getE a2 p10).bind fun x20 => req (fitsL (p9.length + ([x20] : List Int).length)) (pantomimeref19_lay_j12 N (pantomimeref19_lay_l8 N a2 a0 m8) p10 a2 a0 (p9 ++ ([x20] : List Int)))) else (pantomimeref19_lay_j12 N (pantomimeref19_lay_l8 N a2 a0 m8) p10 a2 a0 p9)) else (pantomimeref19_lay_j6 N p9)
theorem pantomimeref19_lay_l8_s {N m8 : Nat} {a2 : (List Int)} {a0 : DMemory} {p9 : (List Int)} {p10 : Int} : pantomimeref19_lay_l8 N a2 a0 (m8 + 1) p9 p10 = bif decide (p10 < (a2.length : Int)) then ((getE a2 p10).bind fun x14 => (pantomimeref19_Has_O N a0 x14).bind fun y15 => (bif y15 then ((getE a2 p10).bind fun x17 => (pantomimeref19_In_O N p9 x17).bind fun y18 => some (!y18)) else (some false)).bind fun b16 => bif b16 then ((getE a2 p10).bind fun x20 => req (fitsL (p9.length + ([x20] : List Int).length)) (pantomimeref19_lay_j12 N (pantomimeref19_lay_l8 N a2 a0 m8) p10 a2 a0 (p9 ++ ([x20] : List Int)))) else (pantomimeref19_lay_j12 N (pantomimeref19_lay_l8 N a2 a0 m8) p10 a2 a0 p9)) else (pantomimeref19_lay_j6 N p9) := rfl
def pantomimeref19_lay_O (N : Nat) (a0 : DMemory) (a1 : (List Int)) (a2 : (List Int)) : Option (List Int) :=
  pantomimeref19_lay_l8 N a2 a0 N a1 0
theorem pantomimeref19_lay_ok {N : Nat} {a0 : DMemory} {a1 : (List Int)} {a2 : (List Int)} {r : (List Int)} (h : pantomimeref19_lay_O N a0 a1 a2 = some r) {A1 : Option Addr} {n1 c1 : Nat} {A2 : Option Addr} {n2 c2 : Nat} {A4 : Option Addr} {n4 c4 : Nat} {A3 : Option Addr} {n3 c3 : Nat} : Okc Tryz.prog 65 [.agg #[.slice A1 n1 c1, .slice A2 n2 c2], .slice A3 n3 c3, .slice A4 n4 c4] ([slC rDCell (.slice A1 n1 c1) a0.Young, slC rDCell (.slice A2 n2 c2) a0.Old, slC (rInt .i64) (.slice A4 n4 c4) a2, ownC (rInt .i64) 3 (.slice A3 n3 c3) a1]) (fun (u : Value) (post : List Chunk) => ∃ A0 n0 c0, u = .slice A0 n0 c0 ∧ post = [ownC (rInt .i64) 3 (.slice A0 n0 c0) r]) := by
  refine ok_E Tryz.func65 rfl rfl ?_
  simp only [envOf]
  refine run ?_
  refine G_opd (op_box rfl rfl) rfl rfl rfl ?_
  rintro _ _ ⟨B5, rfl, rfl⟩
  refine run ?_
  refine G_joinF (fun s L => ∃ (p7 : (List Int)) (A7 : Option Addr) (n7 c7 : Nat), pantomimeref19_lay_j6 N p7 = some r ∧ s = [(1, .slice A7 n7 c7), (6, .slice none 0 0)] ∧ L = [ownC (rInt .i64) 3 (.slice A7 n7 c7) p7]) ?_ ?_
  · refine run ?_
    refine G_loopF (fun m s L => ∃ (p9 : (List Int)) (p10 : Int) (A9 : Option Addr) (n9 c9 : Nat), pantomimeref19_lay_l8 N a2 a0 m p9 p10 = some r ∧ s = [(1, .slice A9 n9 c9), (2, .slice A4 n4 c4), (3, .pointer (some ⟨B5, 0, none⟩)), (6, .slice none 0 0), (7, .int .i64 p10)] ∧ L = [ownC (rInt .i64) 3 (.slice A9 n9 c9) p9, slC (rInt .i64) (.slice A4 n4 c4) a2, slC rDCell (.slice A1 n1 c1) a0.Young, slC rDCell (.slice A2 n2 c2) a0.Old, boxC B5 24 [.slice A1 n1 c1, .slice A2 n2 c2]]) N _ _ ⟨a1, 0, A3, n3, c3, h, rfl, rfl⟩ (sub_cons rfl (sub_cons rfl (sub_cons rfl (sub_cons rfl (sub_cons rfl sub_nil))))) (cv_sel [4, 3, 1, 2, 0] 5 rfl rfl) ?_
    rintro (_ | m8) _ _ ⟨p9, p10, A9, n9, c9, h, rfl, rfl⟩
    · exact none_some h
    rw [pantomimeref19_lay_l8_s] at h
    refine G_seq ?_
    refine run ?_
    refine G_rd (rd_len 1 rfl els_sl rfl Tryz.underlying35) rfl rfl rfl ?_
    refine run ?_
    refine G_cond rfl (fun g11 => ?_) (fun g11 => ?_)
    · replace h := cond_t g11 h
      refine run ?_
      refine G_joinF (fun s L => ∃ (p13 : (List Int)) (A13 : Option Addr) (n13 c13 : Nat), pantomimeref19_lay_j12 N (pantomimeref19_lay_l8 N a2 a0 m8) p10 a2 a0 p13 = some r ∧ s = [(1, .slice A13 n13 c13), (2, .slice A4 n4 c4), (3, .pointer (some ⟨B5, 0, none⟩)), (6, .slice none 0 0), (7, .int .i64 p10)] ∧ L = [ownC (rInt .i64) 3 (.slice A13 n13 c13) p13, slC (rInt .i64) (.slice A4 n4 c4) a2, slC rDCell (.slice A1 n1 c1) a0.Young, slC rDCell (.slice A2 n2 c2) a0.Old, boxC B5 24 [.slice A1 n1 c1, .slice A2 n2 c2]]) ?_ ?_
      · refine G_block ?_
        refine G_seq ?_
        refine G_drawn (by kernel_rfl) _ (cv_refl _) ?_
        refine T3_rd 0 rfl (by kernel_rfl) (rd_boxS (us := [.slice A1 n1 c1, .slice A2 n2 c2]) 4 rfl rfl agg24 rfl) rfl rfl ?_
        refine T3_ev 1 rfl (by kernel_rfl) (ev_move rfl) rfl rfl ?_
        refine T3_ev 2 rfl (by kernel_rfl) (ev_move rfl) rfl rfl ?_
        obtain ⟨x14, hx14, h⟩ := bind_elim h
        obtain ⟨lx14, ux14, hx14⟩ := getE_elim hx14
        refine T3_rd 3 rfl (by kernel_rfl) (rd_idx 1 rfl els_sl rfl rfl Tryz.underlying35 size3 lx14 ux14) rfl rfl ?_
        refine T3_rd 4 rfl (by kernel_rfl) (rd_elem1 (u := .int .i64 x14) 1 rfl els_sl rfl hx14 one3 (fun _ _ _ h => by rw [show _ = _ from h]; rfl)) rfl rfl ?_
        obtain ⟨y15, hy15, h⟩ := bind_elim h
        refine T3_opd 5 rfl (by kernel_rfl) (op_callR (pantomimeref19_Has_ok hy15) call14 rfl (mem_cons (lent_ro (i := 2) rfl rfl) (mem_cons (lent_ro (i := 3) rfl rfl) mem_nil)) pantomimeref19_Has_free) rfl rfl rfl ?_
        rintro _ _ ⟨_, ⟨rfl, rfl⟩, rfl⟩
        refine ⟨_, cv_refl _, cv_refl _, ?_⟩
        refine T3_ev 6 rfl (by kernel_rfl) (ev_move rfl) rfl rfl ?_
        obtain ⟨b16, hb16, h⟩ := bind_elim h
        refine T3_joinB (fun l => ((((((((l.setIfInBounds 7 true).setIfInBounds 8 true).setIfInBounds 9 true).setIfInBounds 10 true).setIfInBounds 11 true).setIfInBounds 12 true).setIfInBounds 13 true).setIfInBounds 14 true)) 0 28 b16 (fun rest => ?_) ?_
        · clear h
          refine T3_case 20 rfl (fun g16 => ?_) (fun g16 => ?_)
          · have h := cond_t g16 hb16
            refine T3_ev 7 rfl (by kernel_rfl) (ev_move rfl) (g_tt g16 rfl) rfl ?_
            refine T3_ev 8 rfl (by kernel_rfl) (ev_move rfl) (g_tt g16 rfl) rfl ?_
            refine T3_ev 9 rfl (by kernel_rfl) (ev_move rfl) (g_tt g16 rfl) rfl ?_
            obtain ⟨x17, hx17, h⟩ := bind_elim h
            obtain ⟨lx17, ux17, hx17⟩ := getE_elim hx17
            refine T3_rd 10 rfl (by kernel_rfl) (rd_idx 1 rfl els_sl rfl rfl Tryz.underlying35 size3 lx17 ux17) (g_tt g16 rfl) rfl ?_
            refine T3_rd 11 rfl (by kernel_rfl) (rd_elem1 (u := .int .i64 x17) 1 rfl els_sl rfl hx17 one3 (fun _ _ _ h => by rw [show _ = _ from h]; rfl)) (g_tt g16 rfl) rfl ?_
            obtain ⟨y18, hy18, h⟩ := bind_elim h
            refine T3_opd 12 rfl (by kernel_rfl) (op_callR (pantomimeref19_In_ok hy18) call119 rfl (mem_cons (lent_own (i := 0) rfl) mem_nil) pantomimeref19_In_free) rfl (g_tt g16 rfl) rfl ?_
            rintro _ _ ⟨_, ⟨rfl, rfl⟩, rfl⟩
            refine ⟨_, cv_refl _, cv_refl _, ?_⟩
            refine T3_ev 13 rfl (by kernel_rfl) (ev_not rfl) (g_tt g16 rfl) rfl ?_
            refine T3_ev 14 rfl (by kernel_rfl) (ev_pick_t' g16 rfl rfl) rfl rfl ?_
            obtain rfl := Option.some.inj h
            exact T3_sub rest (sub_cons rfl (sub_skip (sub_skip (sub_skip (sub_skip (sub_skip (sub_skip (sub_skip (sub_skip sub_refl rfl) rfl) rfl) rfl) rfl) rfl) rfl) rfl)) (cv_refl _) (cv_refl _)
          · have h := cond_f g16 hb16
            refine T3_no 7 rfl (by kernel_rfl) (g_tf g16 rfl) rfl ?_
            refine T3_no 8 rfl (by kernel_rfl) (g_tf g16 rfl) rfl ?_
            refine T3_no 9 rfl (by kernel_rfl) (g_tf g16 rfl) rfl ?_
            refine T3_no 10 rfl (by kernel_rfl) (g_tf g16 rfl) rfl ?_
            refine T3_no 11 rfl (by kernel_rfl) (g_tf g16 rfl) rfl ?_
            refine T3_no 12 rfl (by kernel_rfl) (g_tf g16 rfl) rfl ?_
            refine T3_no 13 rfl (by kernel_rfl) (g_tf g16 rfl) rfl ?_
            refine T3_ev 14 rfl (by kernel_rfl) (ev_pick_f' g16 rfl rfl) rfl rfl ?_
            obtain rfl := Option.some.inj h
            exact T3_sub rest (sub_cons rfl (sub_skip (sub_skip (sub_skip (sub_skip (sub_skip (sub_skip (sub_skip (sub_skip sub_refl rfl) rfl) rfl) rfl) rfl) rfl) rfl) rfl)) (cv_refl _) (cv_refl _)
        refine T3_done (by kernel_rfl) ?_
        refine nx_n ?_
        refine G_cond rfl (fun g19 => ?_) (fun g19 => ?_)
        · replace h := cond_t g19 h
          refine run ?_
          obtain ⟨x20, hx20, h⟩ := bind_elim h
          obtain ⟨lx20, ux20, hx20⟩ := getE_elim hx20
          refine G_rd (rd_idx 1 rfl els_sl rfl rfl Tryz.underlying35 size3 lx20 ux20) rfl rfl rfl ?_
          refine G_rd (rd_elem1 (u := .int .i64 x20) 1 rfl els_sl rfl hx20 one3 (fun _ _ _ h => by rw [show _ = _ from h]; rfl)) rfl rfl rfl ?_
          refine G_opd (op_bslice (R := (rInt .i64)) (vss := [[.int .i64 x20]]) (xs := [x20]) rfl (bsl_35_1 _) rfl rfl (fun _ _ hr => .cons rfl All2.nil)) rfl rfl rfl ?_
          rintro _ _ ⟨A21, n21, c21, rfl, rfl⟩
          obtain ⟨q22, h⟩ := req_elim h
          refine G_opd (op_append 1 0 rfl rfl els_own rfl rfl Tryz.underlying35 zb3 rfl rfl q22) rfl rfl rfl ?_
          rintro _ _ ⟨A23, n23, c23, rfl, rfl⟩
          refine G_norm ([ownC (rInt .i64) 3 (.slice A21 n21 c21) ([x20] : List Int), ownC (rInt .i64) 3 (.slice A23 n23 c23) (p9 ++ ([x20] : List Int)), slC (rInt .i64) (.slice A4 n4 c4) a2, slC rDCell (.slice A1 n1 c1) a0.Young, slC rDCell (.slice A2 n2 c2) a0.Old, boxC B5 24 [.slice A1 n1 c1, .slice A2 n2 c2]]) rfl ?_
          refine run ?_
          exact ⟨_, _, ⟨p9 ++ ([x20] : List Int), A23, n23, c23, h, rfl, rfl⟩, sub_cons rfl (sub_cons rfl (sub_cons rfl (sub_cons rfl (sub_cons rfl sub_nil)))), cv_sel [1, 2, 3, 4, 5] 6 rfl rfl⟩
        · replace h := cond_f g19 h
          refine run ?_
          exact ⟨_, _, ⟨p9, A9, n9, c9, h, rfl, rfl⟩, sub_cons rfl (sub_cons rfl (sub_cons rfl (sub_cons rfl (sub_cons rfl sub_nil)))), cv_sel [0, 1, 2, 3, 4] 5 rfl rfl⟩
      · rintro _ _ ⟨p13, A13, n13, c13, h, rfl, rfl⟩
        refine run ?_
        obtain ⟨q24, h⟩ := req_elim h
        refine G_ev (ev_add rfl rfl q24.1 q24.2) rfl rfl rfl ?_
        refine run ?_
        exact ⟨m8, _, _, Nat.lt_succ_self _, ⟨p13, p10 + 1, A13, n13, c13, h, rfl, rfl⟩, sub_cons rfl (sub_cons rfl (sub_cons rfl (sub_cons rfl (sub_cons rfl sub_nil)))), cv_sel [0, 1, 2, 3, 4] 5 rfl rfl⟩
    · replace h := cond_f g11 h
      refine run ?_
      exact ⟨_, _, ⟨p9, A9, n9, c9, h, rfl, rfl⟩, sub_cons rfl (sub_cons rfl sub_nil), cv_sel [0] 5 rfl rfl⟩
  · rintro _ _ ⟨p7, A7, n7, c7, h, rfl, rfl⟩
    refine run ?_
    obtain rfl := Option.some.inj h
    exact endG1 rfl rfl (cv_sel [0] 1 rfl rfl) ⟨_, _, _, rfl, rfl⟩
def pantomimeref19_through_j5 (N : Nat) (p6 : (List Int)) : Option (List Int) :=
  some p6
def pantomimeref19_through_l7 (N : Nat) (a0 : DMemory) : Nat → (List Int) → Int → Option (List Int)
  | 0, _, _ => none
  | m7 + 1, p8, p9 => bif decide (p9 < (p8.length : Int)) then ((getE p8 p9).bind fun x11 => (pantomimeref19_At_O N a0 x11).bind fun y12 => (pantomimeref15_Leads_O N y12).bind fun y17 => (pantomimeref19_lay_O N a0 p8 y17).bind fun y20 => req (in64 (p9 + 1)) ((pantomimeref19_through_l7 N a0 m7) y20 (p9 + 1))) else (pantomimeref19_through_j5 N p8)
theorem pantomimeref19_through_l7_s {N m7 : Nat} {a0 : DMemory} {p8 : (List Int)} {p9 : Int} : pantomimeref19_through_l7 N a0 (m7 + 1) p8 p9 = bif decide (p9 < (p8.length : Int)) then ((getE p8 p9).bind fun x11 => (pantomimeref19_At_O N a0 x11).bind fun y12 => (pantomimeref15_Leads_O N y12).bind fun y17 => (pantomimeref19_lay_O N a0 p8 y17).bind fun y20 => req (in64 (p9 + 1)) ((pantomimeref19_through_l7 N a0 m7) y20 (p9 + 1))) else (pantomimeref19_through_j5 N p8) := rfl
def pantomimeref19_through_O (N : Nat) (a0 : DMemory) (a1 : (List Int)) (a2 : Int) : Option (List Int) :=
  pantomimeref19_through_l7 N a0 N a1 a2
theorem pantomimeref19_through_ok {N : Nat} {a0 : DMemory} {a1 : (List Int)} {a2 : Int} {r : (List Int)} (h : pantomimeref19_through_O N a0 a1 a2 = some r) {A1 : Option Addr} {n1 c1 : Nat} {A2 : Option Addr} {n2 c2 : Nat} {A3 : Option Addr} {n3 c3 : Nat} : Okc Tryz.prog 64 [.agg #[.slice A1 n1 c1, .slice A2 n2 c2], .slice A3 n3 c3, .int .i64 a2] ([slC rDCell (.slice A1 n1 c1) a0.Young, slC rDCell (.slice A2 n2 c2) a0.Old, ownC (rInt .i64) 3 (.slice A3 n3 c3) a1]) (fun (u : Value) (post : List Chunk) => ∃ A0 n0 c0, u = .slice A0 n0 c0 ∧ post = [ownC (rInt .i64) 3 (.slice A0 n0 c0) r]) := by
  refine ok_E Tryz.func64 rfl rfl ?_
  simp only [envOf]
  refine run ?_
  refine G_opd (op_box rfl rfl) rfl rfl rfl ?_
  rintro _ _ ⟨B4, rfl, rfl⟩
  refine run ?_
  refine G_joinF (fun s L => ∃ (p6 : (List Int)) (A6 : Option Addr) (n6 c6 : Nat), pantomimeref19_through_j5 N p6 = some r ∧ s = [(1, .slice A6 n6 c6), (6, .slice none 0 0)] ∧ L = [ownC (rInt .i64) 3 (.slice A6 n6 c6) p6]) ?_ ?_
  · refine run ?_
    refine G_loopF (fun m s L => ∃ (p8 : (List Int)) (p9 : Int) (A8 : Option Addr) (n8 c8 : Nat), pantomimeref19_through_l7 N a0 m p8 p9 = some r ∧ s = [(1, .slice A8 n8 c8), (3, .pointer (some ⟨B4, 0, none⟩)), (6, .slice none 0 0), (7, .int .i64 p9)] ∧ L = [ownC (rInt .i64) 3 (.slice A8 n8 c8) p8, slC rDCell (.slice A1 n1 c1) a0.Young, slC rDCell (.slice A2 n2 c2) a0.Old, boxC B4 24 [.slice A1 n1 c1, .slice A2 n2 c2]]) N _ _ ⟨a1, a2, A3, n3, c3, h, rfl, rfl⟩ (sub_cons rfl (sub_cons rfl (sub_cons rfl (sub_cons rfl sub_nil)))) (cv_sel [3, 1, 2, 0] 4 rfl rfl) ?_
    rintro (_ | m7) _ _ ⟨p8, p9, A8, n8, c8, h, rfl, rfl⟩
    · exact none_some h
    rw [pantomimeref19_through_l7_s] at h
    refine G_seq ?_
    refine run ?_
    refine G_rd (rd_len 0 rfl els_own rfl Tryz.underlying35) rfl rfl rfl ?_
    refine run ?_
    refine G_cond rfl (fun g10 => ?_) (fun g10 => ?_)
    · replace h := cond_t g10 h
      refine run ?_
      refine G_seq ?_
      refine G_block ?_
      obtain ⟨x11, hx11, h⟩ := bind_elim h
      obtain ⟨lx11, ux11, hx11⟩ := getE_elim hx11
      obtain ⟨y12, hy12, h⟩ := bind_elim h
      obtain ⟨y17, hy17, h⟩ := bind_elim h
      refine G_sub (t := [(1, .slice A8 n8 c8), (3, .pointer (some ⟨B4, 0, none⟩)), (6, .slice none 0 0), (7, .int .i64 p9)]) ?_ subT (cv_refl _)
      refine G_monoX (by kernel_rfl) 9 [] [0, 1, 8] [15, 16, 17, 18, 19, 20, 21, 22, 23] [[], [], [], [], [], [3, 4], [5], [2, 6], [7]] [aV (.agg #[.slice A1 n1 c1, .slice A2 n2 c2]),
 aV (.slice A8 n8 c8),
 aV (.agg #[.slice A1 n1 c1, .slice A2 n2 c2]),
 aV (.slice A8 n8 c8),
 aV (.int .i64 p9),
 aV (elemQ (.slice A8 n8 c8) p9.toNat 1 0),
 aV (.int .i64 x11),
 aX6 (fun (A15 : Option Addr) (n15 c15 : Nat) (A16 : Option Addr) (n16 c16 : Nat) => .agg #[.int .i64 y12.Kind, .int .i64 y12.Shape, .int .i64 y12.Flags, .int .i64 y12.Age, .slice A15 n15 c15, .slice A16 n16 c16]) (fun A15 n15 c15 A16 n16 c16 => [slC rDValue (.slice A15 n15 c15) y12.Slots, slC rDValue (.slice A16 n16 c16) y12.More]),
 aX3 (fun (A19 : Option Addr) (n19 c19 : Nat) => .slice A19 n19 c19) (fun A19 n19 c19 => [ownC (rInt .i64) 3 (.slice A19 n19 c19) y17])] [] (cv_refl _) (qB_nil) (by kernel_rfl) rfl rfl ?_ ?_ ?_
      · exact qs_nil
      · refine steps_cons rfl ?_ ?_
        · intro A15 n15 c15 A16 n16 c16
          refine X_op (op_callR (pantomimeref15_Leads_ok hy17) call93 rfl (mem_cons (lent_ro (i := 0) rfl rfl) (mem_cons (lent_ro (i := 1) rfl rfl) mem_nil)) pantomimeref15_Leads_free) rfl ?_
          rintro _ _ ⟨_, ⟨A18, n18, c18, rfl, rfl⟩, rfl⟩
          exact cvp3 A18 n18 c18 (cv_refl _)
        refine steps_cons rfl ?_ ?_
        · refine X_op (op_call (pantomimeref19_At_ok hy12) call17 rfl (cv_take [1, 2] [] [0, 1, 2, 3] 4 rfl)) rfl ?_
          rintro _ _ ⟨_, ⟨A13, n13, c13, A14, n14, c14, rfl, rfl⟩, rfl⟩
          exact cvp6 A13 n13 c13 A14 n14 c14 (cv_refl _)
        refine steps_cons rfl ?_ ?_
        · exact X_rd (rd_elem1 (u := .int .i64 x11) 0 rfl els_own rfl hx11 one3 (fun _ _ _ h => by rw [show _ = _ from h]; rfl)) rfl (cvpV rfl (cv_refl _))
        refine steps_cons rfl ?_ ?_
        · exact X_rd (rd_idx 0 rfl els_own rfl rfl Tryz.underlying35 size3 lx11 ux11) rfl (cvpV rfl (cv_refl _))
        refine steps_cons rfl ?_ ?_
        · exact X_ev (ev_move rfl) rfl (cvpV rfl (cv_refl _))
        refine steps_cons rfl ?_ ?_
        · exact X_ev (ev_move rfl) rfl (cvpV rfl (cv_refl _))
        refine steps_cons rfl ?_ ?_
        · exact X_rd (rd_boxS (us := [.slice A1 n1 c1, .slice A2 n2 c2]) 3 rfl rfl agg24 rfl) rfl (cvpV rfl (cv_refl _))
        refine steps_cons rfl ?_ ?_
        · exact X_ev (ev_move rfl) rfl (cvpV rfl (cv_refl _))
        refine steps_cons rfl ?_ ?_
        · exact X_rd (rd_boxS (us := [.slice A1 n1 c1, .slice A2 n2 c2]) 3 rfl rfl agg24 rfl) rfl (cvpV rfl (cv_refl _))
        exact steps_nil
      · intro A19 n19 c19
        refine N_sub (t := [(15, .agg #[.slice A1 n1 c1, .slice A2 n2 c2]), (16, .slice A8 n8 c8), (23, .slice A19 n19 c19), (1, .slice A8 n8 c8), (3, .pointer (some ⟨B4, 0, none⟩)), (6, .slice none 0 0), (7, .int .i64 p9)]) (L' := [ownC (rInt .i64) 3 (.slice A19 n19 c19) y17, ownC (rInt .i64) 3 (.slice A8 n8 c8) p8, slC rDCell (.slice A1 n1 c1) a0.Young, slC rDCell (.slice A2 n2 c2) a0.Old, boxC B4 24 [.slice A1 n1 c1, .slice A2 n2 c2]]) ?_ subT (cv_refl _)
        refine N_sub ?_ sub_refl (cv_frz 0 rfl)
        refine N_norm ([slC (rInt .i64) (.slice A19 n19 c19) y17, ownC (rInt .i64) 3 (.slice A8 n8 c8) p8, slC rDCell (.slice A1 n1 c1) a0.Young, slC rDCell (.slice A2 n2 c2) a0.Old, boxC B4 24 [.slice A1 n1 c1, .slice A2 n2 c2]]) rfl ?_
        obtain ⟨y20, hy20, h⟩ := bind_elim h
        refine N_opd 9 rfl (by kernel_rfl) (op_call (pantomimeref19_lay_ok hy20) call65 rfl (cv_take [2, 3, 0] [1] [0, 2, 3, 4] 5 rfl)) rfl rfl rfl ?_
        rintro _ _ ⟨_, ⟨A21, n21, c21, rfl, rfl⟩, rfl⟩
        refine N_norm ([ownC (rInt .i64) 3 (.slice A21 n21 c21) y20, slC (rInt .i64) (.slice A19 n19 c19) y17, slC rDCell (.slice A1 n1 c1) a0.Young, slC rDCell (.slice A2 n2 c2) a0.Old, boxC B4 24 [.slice A1 n1 c1, .slice A2 n2 c2]]) rfl ?_
        refine N_ev 10 rfl (by kernel_rfl) (ev_assign rfl) rfl rfl rfl ?_
        refine N_done (by kernel_rfl) ?_
        refine run ?_
        obtain ⟨q22, h⟩ := req_elim h
        refine G_ev (ev_add rfl rfl q22.1 q22.2) rfl rfl rfl ?_
        refine run ?_
        exact ⟨m7, _, _, Nat.lt_succ_self _, ⟨y20, p9 + 1, A21, n21, c21, h, rfl, rfl⟩, sub_cons rfl (sub_cons rfl (sub_cons rfl (sub_cons rfl sub_nil))), cv_sel [0, 2, 3, 4] 5 rfl rfl⟩
    · replace h := cond_f g10 h
      refine run ?_
      exact ⟨_, _, ⟨p8, A8, n8, c8, h, rfl, rfl⟩, sub_cons rfl (sub_cons rfl sub_nil), cv_sel [0] 4 rfl rfl⟩
  · rintro _ _ ⟨p6, A6, n6, c6, h, rfl, rfl⟩
    refine run ?_
    obtain rfl := Option.some.inj h
    exact endG1 rfl rfl (cv_sel [0] 1 rfl rfl) ⟨_, _, _, rfl, rfl⟩
end Go.Proofs.YtmbaennilhdieaaGreat

/- Pure functions and contracts of Go functions (printed by all3.py). -/
namespace Go.Proofs.YtmbaennilhdieaaGreat
open Go.RowKit Asn
set_option maxRecDepth 20000

def pantomimeref17_Is_O (N : Nat) (a0 : DCell) : Option Bool :=
  (bif decide (a0.Kind = 8) then ((pantomimeref15_Right_O N a0).bind fun y5 => some y5) else (some false)).bind fun b4 => some b4
theorem pantomimeref17_Is_ok {N : Nat} {a0 : DCell} {r : Bool} (h : pantomimeref17_Is_O N a0 = some r) {A1 : Option Addr} {n1 c1 : Nat} {A2 : Option Addr} {n2 c2 : Nat} : Okc Tryz.prog 123 [.agg #[.int .i64 a0.Kind, .int .i64 a0.Shape, .int .i64 a0.Flags, .int .i64 a0.Age, .slice A1 n1 c1, .slice A2 n2 c2]] ([slC rDValue (.slice A1 n1 c1) a0.Slots, slC rDValue (.slice A2 n2 c2) a0.More]) (fun (u : Value) (post : List Chunk) => u = .bool r ∧ post = []) := by
  refine ok_E Tryz.func123 rfl rfl ?_
  simp only [envOf]
  refine run ?_
  refine G_opd (op_box rfl rfl) rfl rfl rfl ?_
  rintro _ _ ⟨B3, rfl, rfl⟩
  refine run ?_
  obtain ⟨b4, hb4, h⟩ := bind_elim h
  refine G_segb 3 9 b4 ?_ ?_
  · clear h
    refine G_case 6 rfl (fun g4 => ?_) (fun g4 => ?_)
    · have h := cond_t g4 hb4
      refine G_rd (rd_boxS (us := [.int .i64 a0.Kind, .int .i64 a0.Shape, .int .i64 a0.Flags, .int .i64 a0.Age, .slice A1 n1 c1, .slice A2 n2 c2]) 0 rfl rfl agg32 rfl) rfl (g_tt g4 rfl) rfl ?_
      obtain ⟨y5, hy5, h⟩ := bind_elim h
      refine G_opd (op_callR (pantomimeref15_Right_ok hy5) call92 rfl (mem_cons (lent_ro (i := 1) rfl rfl) (mem_cons (lent_ro (i := 2) rfl rfl) mem_nil)) pantomimeref15_Right_free) rfl (g_tt g4 rfl) rfl ?_
      rintro _ _ ⟨_, ⟨rfl, rfl⟩, rfl⟩
      refine run ?_
      obtain rfl := Option.some.inj h
      exact G_joined (sub_cons rfl (sub_skip (sub_skip (sub_skip sub_refl rfl) rfl) rfl)) (cv_sel [0, 1, 2] 3 rfl rfl)
    · have h := cond_f g4 hb4
      refine run ?_
      obtain rfl := Option.some.inj h
      exact G_joined (sub_cons rfl (sub_skip (sub_skip (sub_skip sub_refl rfl) rfl) rfl)) (cv_sel [0, 1, 2] 3 rfl rfl)
  refine run ?_
  obtain rfl := Option.some.inj h
  exact endG1 rfl rfl (cv_sel [] 3 rfl rfl) ⟨rfl, rfl⟩
theorem pantomimeref17_Is_free {r : Bool} : ∀ v post, ((fun (u : Value) (post : List Chunk) => u = .bool r ∧ post = [])) v post → ∀ c ∈ post, Free c := by
  rintro _ _ ⟨rfl, rfl⟩; exact mem_nil
def pantomimeref17_In_j2 (N : Nat) : Option Bool :=
  some false
def pantomimeref17_In_l3 (N : Nat) (a0 : Int) (a1 : (List Int)) : Nat → Int → Option Bool
  | 0, _ => none
  | m3 + 1, p4 => bif decide (p4 < (a1.length : Int)) then ((getE a1 p4).bind fun x6 => bif decide (x6 = a0) then (some true) else (req (in64 (p4 + 1)) ((pantomimeref17_In_l3 N a0 a1 m3) (p4 + 1)))) else (pantomimeref17_In_j2 N)
theorem pantomimeref17_In_l3_s {N m3 : Nat} {a0 : Int} {a1 : (List Int)} {p4 : Int} : pantomimeref17_In_l3 N a0 a1 (m3 + 1) p4 = bif decide (p4 < (a1.length : Int)) then ((getE a1 p4).bind fun x6 => bif decide (x6 = a0) then (some true) else (req (in64 (p4 + 1)) ((pantomimeref17_In_l3 N a0 a1 m3) (p4 + 1)))) else (pantomimeref17_In_j2 N) := rfl
def pantomimeref17_In_O (N : Nat) (a0 : Int) (a1 : (List Int)) : Option Bool :=
  pantomimeref17_In_l3 N a0 a1 N 0
theorem pantomimeref17_In_ok {N : Nat} {a0 : Int} {a1 : (List Int)} {r : Bool} (h : pantomimeref17_In_O N a0 a1 = some r) {A1 : Option Addr} {n1 c1 : Nat} : Okc Tryz.prog 42 [.int .i64 a0, .slice A1 n1 c1] ([slC (rInt .i64) (.slice A1 n1 c1) a1]) (fun (u : Value) (post : List Chunk) => u = .bool r ∧ post = []) := by
  refine ok_E Tryz.func42 rfl rfl ?_
  simp only [envOf]
  refine run ?_
  refine G_joinF (fun s L => pantomimeref17_In_j2 N = some r ∧ s = [(4, .bool false)] ∧ L = []) ?_ ?_
  · refine run ?_
    refine G_loopF (fun m s L => ∃ (p4 : Int), pantomimeref17_In_l3 N a0 a1 m p4 = some r ∧ s = [(0, .int .i64 a0), (1, .slice A1 n1 c1), (4, .bool false), (5, .int .i64 p4)] ∧ L = [slC (rInt .i64) (.slice A1 n1 c1) a1]) N _ _ ⟨0, h, rfl, rfl⟩ (sub_cons rfl (sub_cons rfl (sub_cons rfl (sub_cons rfl sub_nil)))) (cv_sel [0] 1 rfl rfl) ?_
    rintro (_ | m3) _ _ ⟨p4, h, rfl, rfl⟩
    · exact none_some h
    rw [pantomimeref17_In_l3_s] at h
    refine G_seq ?_
    refine run ?_
    refine G_rd (rd_len 0 rfl els_sl rfl Tryz.underlying35) rfl rfl rfl ?_
    refine run ?_
    refine G_cond rfl (fun g5 => ?_) (fun g5 => ?_)
    · replace h := cond_t g5 h
      refine run ?_
      refine G_seq ?_
      refine run ?_
      obtain ⟨x6, hx6, h⟩ := bind_elim h
      obtain ⟨lx6, ux6, hx6⟩ := getE_elim hx6
      refine G_rd (rd_idx 0 rfl els_sl rfl rfl Tryz.underlying35 size3 lx6 ux6) rfl rfl rfl ?_
      refine G_rd (rd_elem1 (u := .int .i64 x6) 0 rfl els_sl rfl hx6 one3 (fun _ _ _ h => by rw [show _ = _ from h]; rfl)) rfl rfl rfl ?_
      refine run ?_
      refine G_cond rfl (fun g7 => ?_) (fun g7 => ?_)
      · replace h := cond_t g7 h
        refine run ?_
        obtain rfl := Option.some.inj h
        exact endG1 rfl rfl (cv_sel [] 1 rfl rfl) ⟨rfl, rfl⟩
      · replace h := cond_f g7 h
        refine run ?_
        obtain ⟨q8, h⟩ := req_elim h
        refine G_ev (ev_add rfl rfl q8.1 q8.2) rfl rfl rfl ?_
        refine run ?_
        exact ⟨m3, _, _, Nat.lt_succ_self _, ⟨p4 + 1, h, rfl, rfl⟩, sub_cons rfl (sub_cons rfl (sub_cons rfl (sub_cons rfl sub_nil))), cv_sel [0] 1 rfl rfl⟩
    · replace h := cond_f g5 h
      refine run ?_
      exact ⟨_, _, ⟨h, rfl, rfl⟩, sub_cons rfl sub_nil, cv_sel [] 1 rfl rfl⟩
  · rintro _ _ ⟨h, rfl, rfl⟩
    refine run ?_
    obtain rfl := Option.some.inj h
    exact endG1 rfl rfl (cv_sel [] 0 rfl rfl) ⟨rfl, rfl⟩
theorem pantomimeref17_In_free {r : Bool} : ∀ v post, ((fun (u : Value) (post : List Chunk) => u = .bool r ∧ post = [])) v post → ∀ c ∈ post, Free c := by
  rintro _ _ ⟨rfl, rfl⟩; exact mem_nil
def pantomimeref17_Opens_j5 (N : Nat) (p6 : (List Int)) : Option (List Int) :=
  some p6
def pantomimeref17_Opens_j14 (N : Nat) (kb7 : (List Int) → Int → Option (List Int)) (p9 : Int) (a1 : (List Int)) (a0 : DCell) (p15 : (List Int)) : Option (List Int) :=
  req (in64 (p9 + 2)) (kb7 p15 (p9 + 2))
def pantomimeref17_Opens_l7 (N : Nat) (a1 : (List Int)) (a0 : DCell) : Nat → (List Int) → Int → Option (List Int)
  | 0, _, _ => none
  | m7 + 1, p8, p9 => (pantomimeref17_Is_O N a0).bind fun y11 => (bif y11 then (some (decide (p9 < (a0.More.length : Int)))) else (some false)).bind fun b12 => bif b12 then (req (in64 (p9 + 1)) ((getE a0.More (p9 + 1)).bind fun x17 => (getE a0.More p9).bind fun x19 => (pantomimeref17_In_O N x19.N a1).bind fun y20 => (bif y20 then ((bif decide (x17.Kind = 7) then (some true) else (some (decide (x17.Kind = 9)))).bind fun b22 => some b22) else (some false)).bind fun b21 => bif b21 then (req (fitsL (p8.length + ([x17.N] : List Int).length)) (pantomimeref17_Opens_j14 N (pantomimeref17_Opens_l7 N a1 a0 m7) p9 a1 a0 (p8 ++ ([x17.N] : List Int)))) else (pantomimeref17_Opens_j14 N (pantomimeref17_Opens_l7 N a1 a0 m7) p9 a1 a0 p8))) else (pantomimeref17_Opens_j5 N p8)
theorem pantomimeref17_Opens_l7_s {N m7 : Nat} {a1 : (List Int)} {a0 : DCell} {p8 : (List Int)} {p9 : Int} : pantomimeref17_Opens_l7 N a1 a0 (m7 + 1) p8 p9 = (pantomimeref17_Is_O N a0).bind fun y11 => (bif y11 then (some (decide (p9 < (a0.More.length : Int)))) else (some false)).bind fun b12 => bif b12 then (req (in64 (p9 + 1)) ((getE a0.More (p9 + 1)).bind fun x17 => (getE a0.More p9).bind fun x19 => (pantomimeref17_In_O N x19.N a1).bind fun y20 => (bif y20 then ((bif decide (x17.Kind = 7) then (some true) else (some (decide (x17.Kind = 9)))).bind fun b22 => some b22) else (some false)).bind fun b21 => bif b21 then (req (fitsL (p8.length + ([x17.N] : List Int).length)) (pantomimeref17_Opens_j14 N (pantomimeref17_Opens_l7 N a1 a0 m7) p9 a1 a0 (p8 ++ ([x17.N] : List Int)))) else (pantomimeref17_Opens_j14 N (pantomimeref17_Opens_l7 N a1 a0 m7) p9 a1 a0 p8))) else (pantomimeref17_Opens_j5 N p8) := rfl
def pantomimeref17_Opens_O (N : Nat) (a0 : DCell) (a1 : (List Int)) : Option (List Int) :=
  pantomimeref17_Opens_l7 N a1 a0 N [] 0
theorem pantomimeref17_Opens_ok {N : Nat} {a0 : DCell} {a1 : (List Int)} {r : (List Int)} (h : pantomimeref17_Opens_O N a0 a1 = some r) {A1 : Option Addr} {n1 c1 : Nat} {A2 : Option Addr} {n2 c2 : Nat} {A3 : Option Addr} {n3 c3 : Nat} : Okc Tryz.prog 69 [.agg #[.int .i64 a0.Kind, .int .i64 a0.Shape, .int .i64 a0.Flags, .int .i64 a0.Age, .slice A1 n1 c1, .slice A2 n2 c2], .slice A3 n3 c3] ([slC rDValue (.slice A1 n1 c1) a0.Slots, slC rDValue (.slice A2 n2 c2) a0.More, slC (rInt .i64) (.slice A3 n3 c3) a1]) (fun (u : Value) (post : List Chunk) => ∃ A0 n0 c0, u = .slice A0 n0 c0 ∧ post = [ownC (rInt .i64) 3 (.slice A0 n0 c0) r]) := by
  refine ok_E Tryz.func69 rfl rfl ?_
  simp only [envOf]
  refine run ?_
  refine G_opd (op_box rfl rfl) rfl rfl rfl ?_
  rintro _ _ ⟨B4, rfl, rfl⟩
  refine run ?_
  refine G_joinF (fun s L => ∃ (p6 : (List Int)) (A6 : Option Addr) (n6 c6 : Nat), pantomimeref17_Opens_j5 N p6 = some r ∧ s = [(4, .slice none 0 0), (5, .slice A6 n6 c6)] ∧ L = [ownC (rInt .i64) 3 (.slice A6 n6 c6) p6]) ?_ ?_
  · refine run ?_
    refine G_loopF (fun m s L => ∃ (p8 : (List Int)) (p9 : Int) (A8 : Option Addr) (n8 c8 : Nat), pantomimeref17_Opens_l7 N a1 a0 m p8 p9 = some r ∧ s = [(1, .slice A3 n3 c3), (2, .pointer (some ⟨B4, 0, none⟩)), (4, .slice none 0 0), (5, .slice A8 n8 c8), (6, .int .i64 p9)] ∧ L = [slC (rInt .i64) (.slice A3 n3 c3) a1, ownC (rInt .i64) 3 (.slice A8 n8 c8) p8, slC rDValue (.slice A1 n1 c1) a0.Slots, slC rDValue (.slice A2 n2 c2) a0.More, boxC B4 32 [.int .i64 a0.Kind, .int .i64 a0.Shape, .int .i64 a0.Flags, .int .i64 a0.Age, .slice A1 n1 c1, .slice A2 n2 c2]]) N _ _ ⟨[], 0, none, 0, 0, h, rfl, rfl⟩ (sub_cons rfl (sub_cons rfl (sub_cons rfl (sub_cons rfl (sub_cons rfl sub_nil))))) ((cv_nil (rInt .i64) 3 _).trans (cv_sel [4, 0, 2, 3, 1] 5 rfl rfl)) ?_
    rintro (_ | m7) _ _ ⟨p8, p9, A8, n8, c8, h, rfl, rfl⟩
    · exact none_some h
    rw [pantomimeref17_Opens_l7_s] at h
    refine G_seq ?_
    refine run ?_
    refine G_rd (rd_boxS (us := [.int .i64 a0.Kind, .int .i64 a0.Shape, .int .i64 a0.Flags, .int .i64 a0.Age, .slice A1 n1 c1, .slice A2 n2 c2]) 4 rfl rfl agg32 rfl) rfl rfl rfl ?_
    obtain ⟨y11, hy11, h⟩ := bind_elim h
    refine G_opd (op_callR (pantomimeref17_Is_ok hy11) call123 rfl (mem_cons (lent_ro (i := 2) rfl rfl) (mem_cons (lent_ro (i := 3) rfl rfl) mem_nil)) pantomimeref17_Is_free) rfl rfl rfl ?_
    rintro _ _ ⟨_, ⟨rfl, rfl⟩, rfl⟩
    refine run ?_
    obtain ⟨b12, hb12, h⟩ := bind_elim h
    refine G_segb 6 16 b12 ?_ ?_
    · clear h
      refine G_case 10 rfl (fun g12 => ?_) (fun g12 => ?_)
      · have h := cond_t g12 hb12
        refine run ?_
        refine G_rd (rd_len 3 rfl els_sl rfl Tryz.underlying25) rfl (g_tt g12 rfl) rfl ?_
        refine run ?_
        obtain rfl := Option.some.inj h
        exact G_joined (sub_cons rfl (sub_skip (sub_skip (sub_skip (sub_skip (sub_skip (sub_skip sub_refl rfl) rfl) rfl) rfl) rfl) rfl)) (cv_sel [0, 1, 2, 3, 4] 5 rfl rfl)
      · have h := cond_f g12 hb12
        refine run ?_
        obtain rfl := Option.some.inj h
        exact G_joined (sub_cons rfl (sub_skip (sub_skip (sub_skip (sub_skip (sub_skip (sub_skip sub_refl rfl) rfl) rfl) rfl) rfl) rfl)) (cv_sel [0, 1, 2, 3, 4] 5 rfl rfl)
    refine run ?_
    refine G_cond rfl (fun g13 => ?_) (fun g13 => ?_)
    · replace h := cond_t g13 h
      refine run ?_
      refine G_joinF (fun s L => ∃ (p15 : (List Int)) (A15 : Option Addr) (n15 c15 : Nat), pantomimeref17_Opens_j14 N (pantomimeref17_Opens_l7 N a1 a0 m7) p9 a1 a0 p15 = some r ∧ s = [(1, .slice A3 n3 c3), (2, .pointer (some ⟨B4, 0, none⟩)), (4, .slice none 0 0), (5, .slice A15 n15 c15), (6, .int .i64 p9)] ∧ L = [slC (rInt .i64) (.slice A3 n3 c3) a1, ownC (rInt .i64) 3 (.slice A15 n15 c15) p15, slC rDValue (.slice A1 n1 c1) a0.Slots, slC rDValue (.slice A2 n2 c2) a0.More, boxC B4 32 [.int .i64 a0.Kind, .int .i64 a0.Shape, .int .i64 a0.Flags, .int .i64 a0.Age, .slice A1 n1 c1, .slice A2 n2 c2]]) ?_ ?_
      · refine run ?_
        obtain ⟨q16, h⟩ := req_elim h
        refine G_ev (ev_add rfl rfl q16.1 q16.2) rfl rfl rfl ?_
        obtain ⟨x17, hx17, h⟩ := bind_elim h
        obtain ⟨lx17, ux17, hx17⟩ := getE_elim hx17
        refine G_rd (rd_idx 3 rfl els_sl rfl rfl Tryz.underlying25 size38 lx17 ux17) rfl rfl rfl ?_
        refine G_rd (rd_elemS (us := [.int .i64 x17.Kind, .int .i64 x17.N, .string x17.S]) 3 rfl els_sl rfl hx17 agg38 (fun _ _ _ h => by rw [show _ = _ from h]; rfl)) rfl rfl rfl ?_
        refine G_opd (op_alloc zero38 rfl) rfl rfl rfl ?_
        rintro _ _ ⟨B18, rfl, rfl⟩
        refine G_opn (op_store (us := [.int .i64 x17.Kind, .int .i64 x17.N, .string x17.S]) (cs' := [.int .i64 x17.Kind, .int .i64 x17.N, .string x17.S]) 0 rfl rfl rfl rfl size38 rfl rfl rfl) rfl rfl ?_
        rintro _ _ rfl
        refine G_norm ([boxC B18 38 [.int .i64 x17.Kind, .int .i64 x17.N, .string x17.S], slC (rInt .i64) (.slice A3 n3 c3) a1, ownC (rInt .i64) 3 (.slice A8 n8 c8) p8, slC rDValue (.slice A1 n1 c1) a0.Slots, slC rDValue (.slice A2 n2 c2) a0.More, boxC B4 32 [.int .i64 a0.Kind, .int .i64 a0.Shape, .int .i64 a0.Flags, .int .i64 a0.Age, .slice A1 n1 c1, .slice A2 n2 c2]]) rfl ?_
        refine run ?_
        obtain ⟨x19, hx19, h⟩ := bind_elim h
        obtain ⟨lx19, ux19, hx19⟩ := getE_elim hx19
        refine G_rd (rd_idx 4 rfl els_sl rfl rfl Tryz.underlying25 size38 lx19 ux19) rfl rfl rfl ?_
        refine G_rd (rd_fa 4 rfl els_sl rfl (toNat_lt lx19 ux19) fa_38_1) rfl rfl rfl ?_
        refine G_rd (rd_elem1 (u := .int .i64 x19.N) 4 rfl els_sl rfl hx19 one3 (fun _ _ _ h => by rw [show _ = _ from h]; rfl)) rfl rfl rfl ?_
        refine run ?_
        obtain ⟨y20, hy20, h⟩ := bind_elim h
        refine G_opd (op_callR (pantomimeref17_In_ok hy20) call42 rfl (mem_cons (lent_ro (i := 1) rfl rfl) mem_nil) pantomimeref17_In_free) rfl rfl rfl ?_
        rintro _ _ ⟨_, ⟨rfl, rfl⟩, rfl⟩
        refine run ?_
        obtain ⟨b21, hb21, h⟩ := bind_elim h
        refine G_segb 9 42 b21 ?_ ?_
        · clear h
          refine G_case 33 rfl (fun g21 => ?_) (fun g21 => ?_)
          · have h := cond_t g21 hb21
            refine run ?_
            obtain ⟨b22, hb22, h⟩ := bind_elim h
            refine G_segb 4 41 b22 ?_ ?_
            · clear h
              refine G_case 37 rfl (fun g22 => ?_) (fun g22 => ?_)
              · have h := cond_t g22 hb22
                refine run ?_
                obtain rfl := Option.some.inj h
                exact G_joined (sub_cons rfl (sub_skip (sub_skip (sub_skip (sub_skip sub_refl rfl) rfl) rfl) rfl)) (cv_sel [0, 1, 2, 3, 4, 5] 6 rfl rfl)
              · have h := cond_f g22 hb22
                refine run ?_
                obtain rfl := Option.some.inj h
                exact G_joined (sub_cons rfl (sub_skip (sub_skip (sub_skip (sub_skip sub_refl rfl) rfl) rfl) rfl)) (cv_sel [0, 1, 2, 3, 4, 5] 6 rfl rfl)
            refine run ?_
            obtain rfl := Option.some.inj h
            exact G_joined (sub_cons rfl (sub_skip (sub_skip (sub_skip (sub_skip (sub_skip (sub_skip sub_refl rfl) rfl) rfl) rfl) rfl) rfl)) (cv_sel [0, 1, 2, 3, 4, 5] 6 rfl rfl)
          · have h := cond_f g21 hb21
            refine run ?_
            obtain rfl := Option.some.inj h
            exact G_joined (sub_cons rfl (sub_skip (sub_skip (sub_skip (sub_skip (sub_skip (sub_skip (sub_skip (sub_skip (sub_skip sub_refl rfl) rfl) rfl) rfl) rfl) rfl) rfl) rfl) rfl)) (cv_sel [0, 1, 2, 3, 4, 5] 6 rfl rfl)
        refine run ?_
        refine G_cond rfl (fun g23 => ?_) (fun g23 => ?_)
        · replace h := cond_t g23 h
          refine run ?_
          refine G_opd (op_bslice (R := (rInt .i64)) (vss := [[.int .i64 x17.N]]) (xs := [x17.N]) rfl (bsl_35_1 _) rfl rfl (fun _ _ hr => .cons rfl All2.nil)) rfl rfl rfl ?_
          rintro _ _ ⟨A24, n24, c24, rfl, rfl⟩
          obtain ⟨q25, h⟩ := req_elim h
          refine G_opd (op_append 3 0 rfl rfl els_own rfl rfl Tryz.underlying35 zb3 rfl rfl q25) rfl rfl rfl ?_
          rintro _ _ ⟨A26, n26, c26, rfl, rfl⟩
          refine G_norm ([ownC (rInt .i64) 3 (.slice A24 n24 c24) ([x17.N] : List Int), boxC B18 38 [.int .i64 x17.Kind, .int .i64 x17.N, .string x17.S], slC (rInt .i64) (.slice A3 n3 c3) a1, ownC (rInt .i64) 3 (.slice A26 n26 c26) (p8 ++ ([x17.N] : List Int)), slC rDValue (.slice A1 n1 c1) a0.Slots, slC rDValue (.slice A2 n2 c2) a0.More, boxC B4 32 [.int .i64 a0.Kind, .int .i64 a0.Shape, .int .i64 a0.Flags, .int .i64 a0.Age, .slice A1 n1 c1, .slice A2 n2 c2]]) rfl ?_
          refine run ?_
          exact ⟨_, _, ⟨p8 ++ ([x17.N] : List Int), A26, n26, c26, h, rfl, rfl⟩, sub_cons rfl (sub_cons rfl (sub_cons rfl (sub_cons rfl (sub_cons rfl sub_nil)))), cv_sel [2, 3, 4, 5, 6] 7 rfl rfl⟩
        · replace h := cond_f g23 h
          refine run ?_
          exact ⟨_, _, ⟨p8, A8, n8, c8, h, rfl, rfl⟩, sub_cons rfl (sub_cons rfl (sub_cons rfl (sub_cons rfl (sub_cons rfl sub_nil)))), cv_sel [1, 2, 3, 4, 5] 6 rfl rfl⟩
      · rintro _ _ ⟨p15, A15, n15, c15, h, rfl, rfl⟩
        refine run ?_
        obtain ⟨q27, h⟩ := req_elim h
        refine G_ev (ev_add rfl rfl q27.1 q27.2) rfl rfl rfl ?_
        refine run ?_
        exact ⟨m7, _, _, Nat.lt_succ_self _, ⟨p15, p9 + 2, A15, n15, c15, h, rfl, rfl⟩, sub_cons rfl (sub_cons rfl (sub_cons rfl (sub_cons rfl (sub_cons rfl sub_nil)))), cv_sel [0, 1, 2, 3, 4] 5 rfl rfl⟩
    · replace h := cond_f g13 h
      refine run ?_
      exact ⟨_, _, ⟨p8, A8, n8, c8, h, rfl, rfl⟩, sub_cons rfl (sub_cons rfl sub_nil), cv_sel [1] 5 rfl rfl⟩
  · rintro _ _ ⟨p6, A6, n6, c6, h, rfl, rfl⟩
    refine run ?_
    obtain rfl := Option.some.inj h
    exact endG1 rfl rfl (cv_sel [0] 1 rfl rfl) ⟨_, _, _, rfl, rfl⟩
theorem pantomimeref17_Opens_free {r : (List Int)} : ∀ v post, ((fun (u : Value) (post : List Chunk) => ∃ A0 n0 c0, u = .slice A0 n0 c0 ∧ post = [ownC (rInt .i64) 3 (.slice A0 n0 c0) r])) v post → ∀ c ∈ post, Free c := by
  rintro _ _ ⟨_, _, _, rfl, rfl⟩; exact mem_cons free_own (mem_nil)
def pantomimeref19_Order_j14 (N : Nat) (kb12 : (List Int) → Option (List Int)) (p13 : (List Int)) (a0 : DMemory) (p15 : (List Int)) : Option (List Int) :=
  bif decide ((p15.length : Int) = (p13.length : Int)) then (some p15) else ((pantomimeref19_through_O N a0 p15 (p13.length : Int)).bind fun y33 => kb12 y33)
def pantomimeref19_Order_l16 (N : Nat) (kb12 : (List Int) → Option (List Int)) (p13 : (List Int)) (a0 : DMemory) : Nat → (List Int) → Int → Option (List Int)
  | 0, _, _ => none
  | m16 + 1, p17, p18 => bif decide (p18 < (p13.length : Int)) then ((getE p17 p18).bind fun x20 => (pantomimeref19_At_O N a0 x20).bind fun y21 => (pantomimeref17_Opens_O N y21 p17).bind fun y26 => (pantomimeref19_lay_O N a0 p17 y26).bind fun y29 => req (in64 (p18 + 1)) ((pantomimeref19_Order_l16 N kb12 p13 a0 m16) y29 (p18 + 1))) else (pantomimeref19_Order_j14 N kb12 p13 a0 p17)
theorem pantomimeref19_Order_l16_s {N m16 : Nat} {kb12 : (List Int) → Option (List Int)} {p13 : (List Int)} {a0 : DMemory} {p17 : (List Int)} {p18 : Int} : pantomimeref19_Order_l16 N kb12 p13 a0 (m16 + 1) p17 p18 = bif decide (p18 < (p13.length : Int)) then ((getE p17 p18).bind fun x20 => (pantomimeref19_At_O N a0 x20).bind fun y21 => (pantomimeref17_Opens_O N y21 p17).bind fun y26 => (pantomimeref19_lay_O N a0 p17 y26).bind fun y29 => req (in64 (p18 + 1)) ((pantomimeref19_Order_l16 N kb12 p13 a0 m16) y29 (p18 + 1))) else (pantomimeref19_Order_j14 N kb12 p13 a0 p17) := rfl
def pantomimeref19_Order_l12 (N : Nat) (a0 : DMemory) : Nat → (List Int) → Option (List Int)
  | 0, _ => none
  | m12 + 1, p13 => pantomimeref19_Order_l16 N (pantomimeref19_Order_l12 N a0 m12) p13 a0 N p13 0
theorem pantomimeref19_Order_l12_s {N m12 : Nat} {a0 : DMemory} {p13 : (List Int)} : pantomimeref19_Order_l12 N a0 (m12 + 1) p13 = pantomimeref19_Order_l16 N (pantomimeref19_Order_l12 N a0 m12) p13 a0 N p13 0 := rfl
def pantomimeref19_Order_O (N : Nat) (a0 : DMemory) (a1 : (List DValue)) : Option (List Int) :=
  (pantomimeref19_addresses_O N a1).bind fun y5 => (pantomimeref19_lay_O N a0 ([] : List Int) y5).bind fun y8 => (pantomimeref19_through_O N a0 y8 0).bind fun y10 => pantomimeref19_Order_l12 N a0 N y10
theorem pantomimeref19_Order_ok {N : Nat} {a0 : DMemory} {a1 : (List DValue)} {r : (List Int)} (h : pantomimeref19_Order_O N a0 a1 = some r) {A1 : Option Addr} {n1 c1 : Nat} {A2 : Option Addr} {n2 c2 : Nat} {A3 : Option Addr} {n3 c3 : Nat} : Okc Tryz.prog 26 [.agg #[.slice A1 n1 c1, .slice A2 n2 c2], .slice A3 n3 c3] ([slC rDCell (.slice A1 n1 c1) a0.Young, slC rDCell (.slice A2 n2 c2) a0.Old, slC rDValue (.slice A3 n3 c3) a1]) (fun (u : Value) (post : List Chunk) => ∃ A0 n0 c0, u = .slice A0 n0 c0 ∧ post = [ownC (rInt .i64) 3 (.slice A0 n0 c0) r]) := by
  refine ok_E Tryz.func26 rfl rfl ?_
  simp only [envOf]
  refine run ?_
  refine G_opd (op_box rfl rfl) rfl rfl rfl ?_
  rintro _ _ ⟨B4, rfl, rfl⟩
  refine run ?_
  refine G_seq ?_
  refine G_drawn (by kernel_rfl) _ (cv_refl _) ?_
  refine T3_rd 0 rfl (by kernel_rfl) (rd_boxS (us := [.slice A1 n1 c1, .slice A2 n2 c2]) 0 rfl rfl agg24 rfl) rfl rfl ?_
  refine T3_rd 1 rfl (by kernel_rfl) (rd_boxS (us := [.slice A1 n1 c1, .slice A2 n2 c2]) 0 rfl rfl agg24 rfl) rfl rfl ?_
  refine T3_ev 2 rfl (by kernel_rfl) (ev_move rfl) rfl rfl ?_
  obtain ⟨y5, hy5, h⟩ := bind_elim h
  refine T3_opd 3 rfl (by kernel_rfl) (op_callR (pantomimeref19_addresses_ok hy5) call59 rfl (mem_cons (lent_ro (i := 3) rfl rfl) mem_nil) pantomimeref19_addresses_free) rfl rfl rfl ?_
  rintro _ _ ⟨_, ⟨A6, n6, c6, rfl, rfl⟩, rfl⟩
  refine ⟨[boxC B4 24 [.slice A1 n1 c1, .slice A2 n2 c2], slC rDCell (.slice A1 n1 c1) a0.Young, slC rDCell (.slice A2 n2 c2) a0.Old, slC rDValue (.slice A3 n3 c3) a1], cv_sel [1, 2, 3, 4] 5 rfl rfl, cv_refl _, ?_⟩
  refine T3_cv (cv_nil (rInt .i64) 3 _) (cv_sel [2, 3, 4, 5] 6 rfl rfl) ?_
  refine T3_cv (cv_frz 1 rfl) (cv_sel [2, 3, 4, 5] 6 rfl rfl) ?_
  refine T3_norm ([ownC (rInt .i64) 3 (.slice none 0 0) ([] : List Int), slC (rInt .i64) (.slice A6 n6 c6) y5, boxC B4 24 [.slice A1 n1 c1, .slice A2 n2 c2], slC rDCell (.slice A1 n1 c1) a0.Young, slC rDCell (.slice A2 n2 c2) a0.Old, slC rDValue (.slice A3 n3 c3) a1]) rfl ?_
  obtain ⟨y8, hy8, h⟩ := bind_elim h
  refine T3_opd 4 rfl (by kernel_rfl) (op_call (pantomimeref19_lay_ok hy8) call65 rfl (cv_take [3, 4, 1] [0] [1, 2, 3, 4, 5] 6 rfl)) rfl rfl rfl ?_
  rintro _ _ ⟨_, ⟨A9, n9, c9, rfl, rfl⟩, rfl⟩
  refine ⟨[boxC B4 24 [.slice A1 n1 c1, .slice A2 n2 c2], slC rDCell (.slice A1 n1 c1) a0.Young, slC rDCell (.slice A2 n2 c2) a0.Old, slC rDValue (.slice A3 n3 c3) a1], cv_sel [2, 3, 4, 5] 6 rfl rfl, cv_refl _, ?_⟩
  refine T3_norm ([ownC (rInt .i64) 3 (.slice A9 n9 c9) y8, slC (rInt .i64) (.slice A6 n6 c6) y5, boxC B4 24 [.slice A1 n1 c1, .slice A2 n2 c2], slC rDCell (.slice A1 n1 c1) a0.Young, slC rDCell (.slice A2 n2 c2) a0.Old, slC rDValue (.slice A3 n3 c3) a1]) rfl ?_
  obtain ⟨y10, hy10, h⟩ := bind_elim h
  refine T3_opd 5 rfl (by kernel_rfl) (op_call (pantomimeref19_through_ok hy10) call64 rfl (cv_take [3, 4] [0] [1, 2, 3, 4, 5] 6 rfl)) rfl rfl rfl ?_
  rintro _ _ ⟨_, ⟨A11, n11, c11, rfl, rfl⟩, rfl⟩
  refine ⟨[boxC B4 24 [.slice A1 n1 c1, .slice A2 n2 c2], slC rDCell (.slice A1 n1 c1) a0.Young, slC rDCell (.slice A2 n2 c2) a0.Old, slC rDValue (.slice A3 n3 c3) a1], cv_sel [2, 3, 4, 5] 6 rfl rfl, cv_refl _, ?_⟩
  refine T3_norm ([ownC (rInt .i64) 3 (.slice A11 n11 c11) y10, slC (rInt .i64) (.slice A6 n6 c6) y5, boxC B4 24 [.slice A1 n1 c1, .slice A2 n2 c2], slC rDCell (.slice A1 n1 c1) a0.Young, slC rDCell (.slice A2 n2 c2) a0.Old, slC rDValue (.slice A3 n3 c3) a1]) rfl ?_
  refine T3_ev 6 rfl (by kernel_rfl) (ev_assign rfl) rfl rfl ?_
  refine T3_done (by kernel_rfl) ?_
  refine run ?_
  refine G_loopF (fun m s L => ∃ (p13 : (List Int)) (A13 : Option Addr) (n13 c13 : Nat), pantomimeref19_Order_l12 N a0 m p13 = some r ∧ s = [(2, .pointer (some ⟨B4, 0, none⟩)), (4, .slice none 0 0), (5, .slice A13 n13 c13)] ∧ L = [ownC (rInt .i64) 3 (.slice A13 n13 c13) p13, slC rDCell (.slice A1 n1 c1) a0.Young, slC rDCell (.slice A2 n2 c2) a0.Old, boxC B4 24 [.slice A1 n1 c1, .slice A2 n2 c2]]) N _ _ ⟨y10, A11, n11, c11, h, rfl, rfl⟩ (sub_cons rfl (sub_cons rfl (sub_cons rfl sub_nil))) (cv_sel [0, 3, 4, 2] 6 rfl rfl) ?_
  rintro (_ | m12) _ _ ⟨p13, A13, n13, c13, h, rfl, rfl⟩
  · exact none_some h
  rw [pantomimeref19_Order_l12_s] at h
  refine run ?_
  refine G_rd (rd_len 0 rfl els_own rfl Tryz.underlying35) rfl rfl rfl ?_
  refine run ?_
  refine G_joinF (fun s L => ∃ (p15 : (List Int)) (A15 : Option Addr) (n15 c15 : Nat), pantomimeref19_Order_j14 N (pantomimeref19_Order_l12 N a0 m12) p13 a0 p15 = some r ∧ s = [(2, .pointer (some ⟨B4, 0, none⟩)), (4, .slice none 0 0), (5, .slice A15 n15 c15), (6, .int .i64 (p13.length : Int))] ∧ L = [ownC (rInt .i64) 3 (.slice A15 n15 c15) p15, slC rDCell (.slice A1 n1 c1) a0.Young, slC rDCell (.slice A2 n2 c2) a0.Old, boxC B4 24 [.slice A1 n1 c1, .slice A2 n2 c2]]) ?_ ?_
  · refine run ?_
    refine G_loopF (fun m s L => ∃ (p17 : (List Int)) (p18 : Int) (A17 : Option Addr) (n17 c17 : Nat), pantomimeref19_Order_l16 N (pantomimeref19_Order_l12 N a0 m12) p13 a0 m p17 p18 = some r ∧ s = [(2, .pointer (some ⟨B4, 0, none⟩)), (4, .slice none 0 0), (5, .slice A17 n17 c17), (6, .int .i64 (p13.length : Int)), (7, .int .i64 p18)] ∧ L = [ownC (rInt .i64) 3 (.slice A17 n17 c17) p17, slC rDCell (.slice A1 n1 c1) a0.Young, slC rDCell (.slice A2 n2 c2) a0.Old, boxC B4 24 [.slice A1 n1 c1, .slice A2 n2 c2]]) N _ _ ⟨p13, 0, A13, n13, c13, h, rfl, rfl⟩ (sub_cons rfl (sub_cons rfl (sub_cons rfl (sub_cons rfl (sub_cons rfl sub_nil))))) (cv_sel [0, 1, 2, 3] 4 rfl rfl) ?_
    rintro (_ | m16) _ _ ⟨p17, p18, A17, n17, c17, h, rfl, rfl⟩
    · exact none_some h
    rw [pantomimeref19_Order_l16_s] at h
    refine G_seq ?_
    refine run ?_
    refine G_cond rfl (fun g19 => ?_) (fun g19 => ?_)
    · replace h := cond_t g19 h
      refine run ?_
      refine G_seq ?_
      refine G_block ?_
      obtain ⟨x20, hx20, h⟩ := bind_elim h
      obtain ⟨lx20, ux20, hx20⟩ := getE_elim hx20
      obtain ⟨y21, hy21, h⟩ := bind_elim h
      obtain ⟨y26, hy26, h⟩ := bind_elim h
      refine G_sub (t := [(2, .pointer (some ⟨B4, 0, none⟩)), (4, .slice none 0 0), (5, .slice A17 n17 c17), (6, .int .i64 (p13.length : Int)), (7, .int .i64 p18)]) ?_ subT (cv_refl _)
      refine G_monoX (by kernel_rfl) 10 [] [0, 1, 9] [21, 22, 23, 24, 25, 26, 27, 28, 29, 30] [[], [], [], [], [], [3, 4], [5], [2, 6], [], [7, 8]] [aV (.agg #[.slice A1 n1 c1, .slice A2 n2 c2]),
 aV (.slice A17 n17 c17),
 aV (.agg #[.slice A1 n1 c1, .slice A2 n2 c2]),
 aV (.slice A17 n17 c17),
 aV (.int .i64 p18),
 aV (elemQ (.slice A17 n17 c17) p18.toNat 1 0),
 aV (.int .i64 x20),
 aX6 (fun (A24 : Option Addr) (n24 c24 : Nat) (A25 : Option Addr) (n25 c25 : Nat) => .agg #[.int .i64 y21.Kind, .int .i64 y21.Shape, .int .i64 y21.Flags, .int .i64 y21.Age, .slice A24 n24 c24, .slice A25 n25 c25]) (fun A24 n24 c24 A25 n25 c25 => [slC rDValue (.slice A24 n24 c24) y21.Slots, slC rDValue (.slice A25 n25 c25) y21.More]),
 aV (.slice A17 n17 c17),
 aX3 (fun (A28 : Option Addr) (n28 c28 : Nat) => .slice A28 n28 c28) (fun A28 n28 c28 => [ownC (rInt .i64) 3 (.slice A28 n28 c28) y26])] [] (cv_refl _) (qB_nil) (by kernel_rfl) rfl rfl ?_ ?_ ?_
      · exact qs_nil
      · refine steps_cons rfl ?_ ?_
        · intro A24 n24 c24 A25 n25 c25
          refine X_op (op_callR (pantomimeref17_Opens_ok hy26) call69 rfl (mem_cons (lent_ro (i := 0) rfl rfl) (mem_cons (lent_ro (i := 1) rfl rfl) (mem_cons (lent_own (i := 2) rfl) mem_nil))) pantomimeref17_Opens_free) rfl ?_
          rintro _ _ ⟨_, ⟨A27, n27, c27, rfl, rfl⟩, rfl⟩
          exact cvp3 A27 n27 c27 (cv_refl _)
        refine steps_cons rfl ?_ ?_
        · exact X_ev (ev_move rfl) rfl (cvpV rfl (cv_refl _))
        refine steps_cons rfl ?_ ?_
        · refine X_op (op_call (pantomimeref19_At_ok hy21) call17 rfl (cv_take [1, 2] [] [0, 1, 2, 3] 4 rfl)) rfl ?_
          rintro _ _ ⟨_, ⟨A22, n22, c22, A23, n23, c23, rfl, rfl⟩, rfl⟩
          exact cvp6 A22 n22 c22 A23 n23 c23 (cv_refl _)
        refine steps_cons rfl ?_ ?_
        · exact X_rd (rd_elem1 (u := .int .i64 x20) 0 rfl els_own rfl hx20 one3 (fun _ _ _ h => by rw [show _ = _ from h]; rfl)) rfl (cvpV rfl (cv_refl _))
        refine steps_cons rfl ?_ ?_
        · exact X_rd (rd_idx 0 rfl els_own rfl rfl Tryz.underlying35 size3 lx20 ux20) rfl (cvpV rfl (cv_refl _))
        refine steps_cons rfl ?_ ?_
        · exact X_ev (ev_move rfl) rfl (cvpV rfl (cv_refl _))
        refine steps_cons rfl ?_ ?_
        · exact X_ev (ev_move rfl) rfl (cvpV rfl (cv_refl _))
        refine steps_cons rfl ?_ ?_
        · exact X_rd (rd_boxS (us := [.slice A1 n1 c1, .slice A2 n2 c2]) 3 rfl rfl agg24 rfl) rfl (cvpV rfl (cv_refl _))
        refine steps_cons rfl ?_ ?_
        · exact X_ev (ev_move rfl) rfl (cvpV rfl (cv_refl _))
        refine steps_cons rfl ?_ ?_
        · exact X_rd (rd_boxS (us := [.slice A1 n1 c1, .slice A2 n2 c2]) 3 rfl rfl agg24 rfl) rfl (cvpV rfl (cv_refl _))
        exact steps_nil
      · intro A28 n28 c28
        refine N_sub (t := [(21, .agg #[.slice A1 n1 c1, .slice A2 n2 c2]), (22, .slice A17 n17 c17), (30, .slice A28 n28 c28), (2, .pointer (some ⟨B4, 0, none⟩)), (4, .slice none 0 0), (5, .slice A17 n17 c17), (6, .int .i64 (p13.length : Int)), (7, .int .i64 p18)]) (L' := [ownC (rInt .i64) 3 (.slice A28 n28 c28) y26, ownC (rInt .i64) 3 (.slice A17 n17 c17) p17, slC rDCell (.slice A1 n1 c1) a0.Young, slC rDCell (.slice A2 n2 c2) a0.Old, boxC B4 24 [.slice A1 n1 c1, .slice A2 n2 c2]]) ?_ subT (cv_refl _)
        refine N_sub ?_ sub_refl (cv_frz 0 rfl)
        refine N_norm ([slC (rInt .i64) (.slice A28 n28 c28) y26, ownC (rInt .i64) 3 (.slice A17 n17 c17) p17, slC rDCell (.slice A1 n1 c1) a0.Young, slC rDCell (.slice A2 n2 c2) a0.Old, boxC B4 24 [.slice A1 n1 c1, .slice A2 n2 c2]]) rfl ?_
        obtain ⟨y29, hy29, h⟩ := bind_elim h
        refine N_opd 10 rfl (by kernel_rfl) (op_call (pantomimeref19_lay_ok hy29) call65 rfl (cv_take [2, 3, 0] [1] [0, 2, 3, 4] 5 rfl)) rfl rfl rfl ?_
        rintro _ _ ⟨_, ⟨A30, n30, c30, rfl, rfl⟩, rfl⟩
        refine N_norm ([ownC (rInt .i64) 3 (.slice A30 n30 c30) y29, slC (rInt .i64) (.slice A28 n28 c28) y26, slC rDCell (.slice A1 n1 c1) a0.Young, slC rDCell (.slice A2 n2 c2) a0.Old, boxC B4 24 [.slice A1 n1 c1, .slice A2 n2 c2]]) rfl ?_
        refine N_ev 11 rfl (by kernel_rfl) (ev_assign rfl) rfl rfl rfl ?_
        refine N_done (by kernel_rfl) ?_
        refine run ?_
        obtain ⟨q31, h⟩ := req_elim h
        refine G_ev (ev_add rfl rfl q31.1 q31.2) rfl rfl rfl ?_
        refine run ?_
        exact ⟨m16, _, _, Nat.lt_succ_self _, ⟨y29, p18 + 1, A30, n30, c30, h, rfl, rfl⟩, sub_cons rfl (sub_cons rfl (sub_cons rfl (sub_cons rfl (sub_cons rfl sub_nil)))), cv_sel [0, 2, 3, 4] 5 rfl rfl⟩
    · replace h := cond_f g19 h
      refine run ?_
      exact ⟨_, _, ⟨p17, A17, n17, c17, h, rfl, rfl⟩, sub_cons rfl (sub_cons rfl (sub_cons rfl (sub_cons rfl sub_nil))), cv_sel [0, 1, 2, 3] 4 rfl rfl⟩
  · rintro _ _ ⟨p15, A15, n15, c15, h, rfl, rfl⟩
    refine G_seq ?_
    refine run ?_
    refine G_rd (rd_len 0 rfl els_own rfl Tryz.underlying35) rfl rfl rfl ?_
    refine run ?_
    refine G_cond rfl (fun g32 => ?_) (fun g32 => ?_)
    · replace h := cond_t g32 h
      refine run ?_
      obtain rfl := Option.some.inj h
      exact endG1 rfl rfl (cv_sel [0] 4 rfl rfl) ⟨_, _, _, rfl, rfl⟩
    · replace h := cond_f g32 h
      refine run ?_
      refine G_rd (rd_boxS (us := [.slice A1 n1 c1, .slice A2 n2 c2]) 3 rfl rfl agg24 rfl) rfl rfl rfl ?_
      refine run ?_
      obtain ⟨y33, hy33, h⟩ := bind_elim h
      refine G_opd (op_call (pantomimeref19_through_ok hy33) call64 rfl (cv_take [1, 2] [0] [1, 2, 3] 4 rfl)) rfl rfl rfl ?_
      rintro _ _ ⟨_, ⟨A34, n34, c34, rfl, rfl⟩, rfl⟩
      refine G_norm ([ownC (rInt .i64) 3 (.slice A34 n34 c34) y33, slC rDCell (.slice A1 n1 c1) a0.Young, slC rDCell (.slice A2 n2 c2) a0.Old, boxC B4 24 [.slice A1 n1 c1, .slice A2 n2 c2]]) rfl ?_
      refine run ?_
      exact ⟨m12, _, _, Nat.lt_succ_self _, ⟨y33, A34, n34, c34, h, rfl, rfl⟩, sub_cons rfl (sub_cons rfl (sub_cons rfl sub_nil)), cv_sel [0, 1, 2, 3] 4 rfl rfl⟩
theorem pantomimeref19_Order_free {r : (List Int)} : ∀ v post, ((fun (u : Value) (post : List Chunk) => ∃ A0 n0 c0, u = .slice A0 n0 c0 ∧ post = [ownC (rInt .i64) 3 (.slice A0 n0 c0) r])) v post → ∀ c ∈ post, Free c := by
  rintro _ _ ⟨_, _, _, rfl, rfl⟩; exact mem_cons free_own (mem_nil)
def slices_Clone_125_O (N : Nat) (a0 : (List DCell)) : Option (List DCell) :=
  req (fitsL (([] : List DCell).length + a0.length)) (some (([] : List DCell) ++ a0))
theorem slices_Clone_125_ok {N : Nat} {a0 : (List DCell)} {r : (List DCell)} (h : slices_Clone_125_O N a0 = some r) {A1 : Option Addr} {n1 c1 : Nat} : Okc Tryz.prog 125 [.slice A1 n1 c1] ([slC rDCell (.slice A1 n1 c1) a0]) (fun (u : Value) (post : List Chunk) => ∃ A0 n0 c0, u = .slice A0 n0 c0 ∧ post = [ownC rDCell 32 (.slice A0 n0 c0) r]) := by
  refine ok_E Tryz.func125 rfl rfl ?_
  simp only [envOf]
  refine run ?_
  refine G_seq ?_
  refine run ?_
  refine G_ev (ev_slnil_eq rfl Tryz.underlying22) rfl rfl rfl ?_
  refine run ?_
  refine G_cond rfl (fun g2 => ?_) (fun g2 => ?_)
  · replace g2 : (A1).isNone = true := by simpa using g2
    refine G_isnil 0 rfl els_sl g2 (fun hx => ?_)
    subst hx
    replace h : req (fitsL (([] : List DCell).length + ([] : List DCell).length)) (some (([] : List DCell) ++ ([] : List DCell))) = some r := h
    replace h : some [] = some r := by simpa [req] using h
    refine run ?_
    obtain rfl := Option.some.inj h
    exact endG1 rfl rfl ((cv_nil rDCell 32 _).trans (cv_sel [0] 2 rfl rfl)) ⟨_, _, _, rfl, rfl⟩
  · refine run ?_
    refine G_opd (op_bslice (R := rDCell) (vss := []) (xs := []) rfl (bsl_22_0) rfl rfl (fun _ _ hr => All2.nil)) rfl rfl rfl ?_
    rintro _ _ ⟨A4, n4, c4, rfl, rfl⟩
    refine run ?_
    obtain ⟨q5, h⟩ := req_elim h
    refine G_opd (op_append 0 1 rfl rfl els_sl rfl rfl Tryz.underlying22 zb32 rfl rfl q5) rfl rfl rfl ?_
    rintro _ _ ⟨A6, n6, c6, rfl, rfl⟩
    refine G_norm ([ownC rDCell 32 (.slice A6 n6 c6) (([] : List DCell) ++ a0), slC rDCell (.slice A1 n1 c1) a0]) rfl ?_
    refine run ?_
    obtain rfl := Option.some.inj h
    exact endG1 rfl rfl (cv_sel [0] 2 rfl rfl) ⟨_, _, _, rfl, rfl⟩
def reach_bare_c1_j4 (N : Nat) (p5 : (List DCell)) : Option (List DCell) :=
  some p5
def reach_bare_c1_j10 (N : Nat) (kb6 : (List DCell) → Int → Option (List DCell)) (y2 : ((List DCell))) (p8 : Int) (p11 : (List DCell)) : Option (List DCell) :=
  req (in64 (p8 + 1)) (kb6 p11 (p8 + 1))
def reach_bare_c1_l6 (N : Nat) (y2 : ((List DCell))) : Nat → (List DCell) → Int → Option (List DCell)
  | 0, _, _ => none
  | m6 + 1, p7, p8 => bif decide (p8 < (y2.length : Int)) then ((getE p7 p8).bind fun x12 => (bif decide (x12.Kind = 10) then ((cell_Right_O N x12).bind fun y17 => some y17) else (some false)).bind fun b16 => bif b16 then (req ((0 : Int) ≤ 1 ∧ 0 ≤ (1 : Int).toNat ∧ (1 : Int).toNat ≤ x12.More.length) ((getE p7 p8).bind fun x21 => reach_bare_c1_j10 N (reach_bare_c1_l6 N y2 m6) y2 p8 (List.set p7 p8.toNat (⟨x21.Kind, x21.Shape, x21.Flags, x21.Age, x21.Slots, (x12.More.drop 0).take ((1 : Int).toNat - 0)⟩ : DCell)))) else (reach_bare_c1_j10 N (reach_bare_c1_l6 N y2 m6) y2 p8 p7)) else (reach_bare_c1_j4 N p7)
theorem reach_bare_c1_l6_s {N m6 : Nat} {y2 : ((List DCell))} {p7 : (List DCell)} {p8 : Int} : reach_bare_c1_l6 N y2 (m6 + 1) p7 p8 = bif decide (p8 < (y2.length : Int)) then ((getE p7 p8).bind fun x12 => (bif decide (x12.Kind = 10) then ((cell_Right_O N x12).bind fun y17 => some y17) else (some false)).bind fun b16 => bif b16 then (req ((0 : Int) ≤ 1 ∧ 0 ≤ (1 : Int).toNat ∧ (1 : Int).toNat ≤ x12.More.length) ((getE p7 p8).bind fun x21 => reach_bare_c1_j10 N (reach_bare_c1_l6 N y2 m6) y2 p8 (List.set p7 p8.toNat (⟨x21.Kind, x21.Shape, x21.Flags, x21.Age, x21.Slots, (x12.More.drop 0).take ((1 : Int).toNat - 0)⟩ : DCell)))) else (reach_bare_c1_j10 N (reach_bare_c1_l6 N y2 m6) y2 p8 p7)) else (reach_bare_c1_j4 N p7) := rfl
def reach_bare_c1_O (N : Nat) (a0 : (List DCell)) : Option (List DCell) :=
  (slices_Clone_125_O N a0).bind fun y2 => reach_bare_c1_l6 N y2 N y2 0
theorem reach_bare_c1_ok {N : Nat} {a0 : (List DCell)} {r : (List DCell)} (h : reach_bare_c1_O N a0 = some r) {A1 : Option Addr} {n1 c1 : Nat} : Okc Tryz.prog 124 [.slice A1 n1 c1] ([slC rDCell (.slice A1 n1 c1) a0]) (fun (u : Value) (post : List Chunk) => ∃ A0 n0 c0, u = .slice A0 n0 c0 ∧ post = [ownC rDCell 32 (.slice A0 n0 c0) r]) := by
  refine ok_E Tryz.func124 rfl rfl ?_
  simp only [envOf]
  refine run ?_
  obtain ⟨y2, hy2, h⟩ := bind_elim h
  refine G_opd (op_call (slices_Clone_125_ok hy2) call125 rfl (cv_take [0] [] [0] 1 rfl)) rfl rfl rfl ?_
  rintro _ _ ⟨_, ⟨A3, n3, c3, rfl, rfl⟩, rfl⟩
  refine G_norm ([ownC rDCell 32 (.slice A3 n3 c3) y2, slC rDCell (.slice A1 n1 c1) a0]) rfl ?_
  refine run ?_
  refine G_joinF (fun s L => ∃ (p5 : (List DCell)) (A5 : Option Addr) (n5 c5 : Nat), reach_bare_c1_j4 N p5 = some r ∧ s = [(2, .slice none 0 0), (3, .slice A5 n5 c5)] ∧ L = [ownC rDCell 32 (.slice A5 n5 c5) p5]) ?_ ?_
  · refine run ?_
    refine G_rd (rd_len 0 rfl els_own rfl Tryz.underlying22) rfl rfl rfl ?_
    refine run ?_
    refine G_loopF (fun m s L => ∃ (p7 : (List DCell)) (p8 : Int) (A7 : Option Addr) (n7 c7 : Nat), reach_bare_c1_l6 N y2 m p7 p8 = some r ∧ s = [(2, .slice none 0 0), (3, .slice A7 n7 c7), (8, .slice A7 n7 c7), (9, .int .i64 (y2.length : Int)), (10, .int .i64 p8)] ∧ L = [ownC rDCell 32 (.slice A7 n7 c7) p7]) N _ _ ⟨y2, 0, A3, n3, c3, h, rfl, rfl⟩ (sub_cons rfl (sub_cons rfl (sub_cons rfl (sub_cons rfl (sub_cons rfl sub_nil))))) (cv_sel [0] 2 rfl rfl) ?_
    rintro (_ | m6) _ _ ⟨p7, p8, A7, n7, c7, h, rfl, rfl⟩
    · exact none_some h
    rw [reach_bare_c1_l6_s] at h
    refine run ?_
    refine G_seq ?_
    refine G_cond rfl (fun g9 => ?_) (fun g9 => ?_)
    · replace h := cond_t g9 h
      refine run ?_
      refine G_joinF (fun s L => ∃ (p11 : (List DCell)) (A11 : Option Addr) (n11 c11 : Nat), reach_bare_c1_j10 N (reach_bare_c1_l6 N y2 m6) y2 p8 p11 = some r ∧ s = [(2, .slice none 0 0), (3, .slice A11 n11 c11), (8, .slice A11 n11 c11), (9, .int .i64 (y2.length : Int)), (10, .int .i64 p8)] ∧ L = [ownC rDCell 32 (.slice A11 n11 c11) p11]) ?_ ?_
      · refine run ?_
        obtain ⟨x12, hx12, h⟩ := bind_elim h
        obtain ⟨lx12, ux12, hx12⟩ := getE_elim hx12
        refine G_rd (rd_idx 0 rfl els_own rfl rfl Tryz.underlying22 size32 lx12 ux12) rfl rfl rfl ?_
        refine G_opd (op_elemA 0 rfl els_own rfl hx12 agg32 rfl (open_DCell x12)) rfl rfl rfl ?_
        rintro u _ ⟨_, _, ⟨A13, n13, c13, A14, n14, c14, rfl, rfl⟩, hu, rfl⟩
        obtain rfl : u = .agg #[.int .i64 x12.Kind, .int .i64 x12.Shape, .int .i64 x12.Flags, .int .i64 x12.Age, .slice A13 n13 c13, .slice A14 n14 c14] := hu
        refine G_opd (op_alloc zero32 rfl) rfl rfl rfl ?_
        rintro _ _ ⟨B15, rfl, rfl⟩
        refine run ?_
        refine G_opn (op_store (us := [.int .i64 x12.Kind, .int .i64 x12.Shape, .int .i64 x12.Flags, .int .i64 x12.Age, .slice A13 n13 c13, .slice A14 n14 c14]) (cs' := [.int .i64 x12.Kind, .int .i64 x12.Shape, .int .i64 x12.Flags, .int .i64 x12.Age, .slice A13 n13 c13, .slice A14 n14 c14]) 0 rfl rfl rfl rfl size32 rfl rfl rfl) rfl rfl ?_
        rintro _ _ rfl
        refine G_norm ([boxC B15 32 [.int .i64 x12.Kind, .int .i64 x12.Shape, .int .i64 x12.Flags, .int .i64 x12.Age, .slice A13 n13 c13, .slice A14 n14 c14], slC rDValue (.slice A13 n13 c13) x12.Slots, slC rDValue (.slice A14 n14 c14) x12.More, ownC rDCell 32 (.slice A7 n7 c7) p7]) rfl ?_
        refine run ?_
        obtain ⟨b16, hb16, h⟩ := bind_elim h
        refine G_segb 3 21 b16 ?_ ?_
        · clear h
          refine G_case 18 rfl (fun g16 => ?_) (fun g16 => ?_)
          · have h := cond_t g16 hb16
            refine G_rd (rd_boxS (us := [.int .i64 x12.Kind, .int .i64 x12.Shape, .int .i64 x12.Flags, .int .i64 x12.Age, .slice A13 n13 c13, .slice A14 n14 c14]) 0 rfl rfl agg32 rfl) rfl (g_tt g16 rfl) rfl ?_
            obtain ⟨y17, hy17, h⟩ := bind_elim h
            refine G_opd (op_callR (cell_Right_ok hy17) call53 rfl (mem_cons (lent_ro (i := 1) rfl rfl) (mem_cons (lent_ro (i := 2) rfl rfl) mem_nil)) cell_Right_free) rfl (g_tt g16 rfl) rfl ?_
            rintro _ _ ⟨_, ⟨rfl, rfl⟩, rfl⟩
            refine run ?_
            obtain rfl := Option.some.inj h
            exact G_joined (sub_cons rfl (sub_skip (sub_skip (sub_skip sub_refl rfl) rfl) rfl)) (cv_sel [0, 1, 2, 3] 4 rfl rfl)
          · have h := cond_f g16 hb16
            refine run ?_
            obtain rfl := Option.some.inj h
            exact G_joined (sub_cons rfl (sub_skip (sub_skip (sub_skip sub_refl rfl) rfl) rfl)) (cv_sel [0, 1, 2, 3] 4 rfl rfl)
        refine run ?_
        refine G_cond rfl (fun g18 => ?_) (fun g18 => ?_)
        · replace h := cond_t g18 h
          refine run ?_
          obtain ⟨q19, h⟩ := req_elim h
          refine G_cut 2 rfl (l := 0) (h := (1 : Int).toNat) q19.2.1 q19.2.2 ?_
          rintro A20 n20 c20 e20
          refine G_rd (rd_cut 3 rfl e20 rfl Tryz.underlying25 size38 rfl rfl (by rw [Int.toNat_of_nonneg q19.1]; rfl) q19.2.1 q19.2.2) rfl rfl rfl ?_
          obtain ⟨x21, hx21, h⟩ := bind_elim h
          obtain ⟨lx21, ux21, hx21⟩ := getE_elim hx21
          refine G_rd (rd_idx 4 rfl els_own rfl rfl Tryz.underlying22 size32 lx21 ux21) rfl rfl rfl ?_
          refine G_rd (rd_fa 4 rfl els_own rfl (toNat_lt lx21 ux21) fa_32_5) rfl rfl rfl ?_
          refine G_opn (op_storeE (us := [.slice A20 n20 c20]) (z := (⟨x21.Kind, x21.Shape, x21.Flags, x21.Age, x21.Slots, (x12.More.drop 0).take ((1 : Int).toNat - 0)⟩ : DCell)) 4 rfl rfl rfl rfl size25 rfl (toNat_lt lx21 ux21) rfl (fun S w vs xk hk hr ho => by obtain rfl := Option.some.inj (hk.symm.trans hx21); obtain ⟨_, _, _, _, _, _, rfl, s4, s5⟩ := hr; exact ⟨_, _, _, _, _, _, rfl, s4, ho 0 _ rfl rfl⟩)) rfl rfl ?_
          rintro _ _ rfl
          refine G_norm ([slC rDValue (.slice A20 n20 c20) ((x12.More.drop 0).take ((1 : Int).toNat - 0)), boxC B15 32 [.int .i64 x12.Kind, .int .i64 x12.Shape, .int .i64 x12.Flags, .int .i64 x12.Age, .slice A13 n13 c13, .slice A14 n14 c14], slC rDValue (.slice A13 n13 c13) x12.Slots, slC rDValue (.slice A14 n14 c14) x12.More, ownC rDCell 32 (.slice A7 n7 c7) (List.set p7 p8.toNat (⟨x21.Kind, x21.Shape, x21.Flags, x21.Age, x21.Slots, (x12.More.drop 0).take ((1 : Int).toNat - 0)⟩ : DCell))]) rfl ?_
          refine run ?_
          exact ⟨_, _, ⟨List.set p7 p8.toNat (⟨x21.Kind, x21.Shape, x21.Flags, x21.Age, x21.Slots, (x12.More.drop 0).take ((1 : Int).toNat - 0)⟩ : DCell), A7, n7, c7, h, rfl, rfl⟩, sub_cons rfl (sub_cons rfl (sub_cons rfl (sub_cons rfl (sub_cons rfl sub_nil)))), cv_sel [4] 5 rfl rfl⟩
        · replace h := cond_f g18 h
          refine run ?_
          exact ⟨_, _, ⟨p7, A7, n7, c7, h, rfl, rfl⟩, sub_cons rfl (sub_cons rfl (sub_cons rfl (sub_cons rfl (sub_cons rfl sub_nil)))), cv_sel [3] 4 rfl rfl⟩
      · rintro _ _ ⟨p11, A11, n11, c11, h, rfl, rfl⟩
        refine G_region ?_
        obtain ⟨q22, h⟩ := req_elim h
        refine G_ev (ev_add rfl rfl q22.1 q22.2) rfl rfl rfl ?_
        refine run ?_
        exact ⟨m6, _, _, Nat.lt_succ_self _, ⟨p11, p8 + 1, A11, n11, c11, h, rfl, rfl⟩, sub_cons rfl (sub_cons rfl (sub_cons rfl (sub_cons rfl (sub_cons rfl sub_nil)))), cv_sel [0] 1 rfl rfl⟩
    · replace h := cond_f g9 h
      refine run ?_
      exact ⟨_, _, ⟨p7, A7, n7, c7, h, rfl, rfl⟩, sub_cons rfl (sub_cons rfl sub_nil), cv_sel [0] 1 rfl rfl⟩
  · rintro _ _ ⟨p5, A5, n5, c5, h, rfl, rfl⟩
    refine run ?_
    obtain rfl := Option.some.inj h
    exact endG1 rfl rfl (cv_sel [0] 1 rfl rfl) ⟨_, _, _, rfl, rfl⟩
def reach_bare_O (N : Nat) (a0 : DMemory) : Option DMemory :=
  (reach_bare_c1_O N a0.Young).bind fun y5 => (reach_bare_c1_O N a0.Old).bind fun y7 => some (⟨y5, y7⟩ : DMemory)
theorem reach_bare_ok {N : Nat} {a0 : DMemory} {r : DMemory} (h : reach_bare_O N a0 = some r) {A1 : Option Addr} {n1 c1 : Nat} {A2 : Option Addr} {n2 c2 : Nat} : Okc Tryz.prog 70 [.agg #[.slice A1 n1 c1, .slice A2 n2 c2]] ([slC rDCell (.slice A1 n1 c1) a0.Young, slC rDCell (.slice A2 n2 c2) a0.Old]) (fun (u : Value) (post : List Chunk) => ∃ A0 n0 c0 A1 n1 c1, u = .agg #[.slice A0 n0 c0, .slice A1 n1 c1] ∧ post = [ownC rDCell 32 (.slice A0 n0 c0) r.Young, ownC rDCell 32 (.slice A1 n1 c1) r.Old]) := by
  refine ok_E Tryz.func70 rfl rfl ?_
  simp only [envOf]
  refine run ?_
  refine G_opd (op_box rfl rfl) rfl rfl rfl ?_
  rintro _ _ ⟨B3, rfl, rfl⟩
  refine G_opd (op_alloc zero24 rfl) rfl rfl rfl ?_
  rintro _ _ ⟨B4, rfl, rfl⟩
  refine run ?_
  refine G_seq ?_
  refine G_drawn (by kernel_rfl) ([boxC B3 24 [.slice A1 n1 c1, .slice A2 n2 c2], slC rDCell (.slice A1 n1 c1) a0.Young, slC rDCell (.slice A2 n2 c2) a0.Old]) (cv_sel [1, 2, 3] 4 rfl rfl) ?_
  refine T3_ev 0 rfl (by kernel_rfl) (ev_move rfl) rfl rfl ?_
  refine T3_ev 1 rfl (by kernel_rfl) (ev_fa0 rfl fa_24_0) rfl rfl ?_
  refine T3_rd 2 rfl (by kernel_rfl) (rd_box1 0 rfl rfl one22 rfl) rfl rfl ?_
  refine T3_ev 4 rfl (by kernel_rfl) (ev_move rfl) rfl rfl ?_
  refine T3_ev 5 rfl (by kernel_rfl) (ev_fa rfl fa_24_1) rfl rfl ?_
  refine T3_rd 6 rfl (by kernel_rfl) (rd_box1 0 rfl rfl one22 rfl) rfl rfl ?_
  obtain ⟨y5, hy5, h⟩ := bind_elim h
  refine T3_opd 3 rfl (by kernel_rfl) (op_callc (reach_bare_c1_ok hy5) call124 rfl rfl rfl (cv_take [2] [] [0, 1, 2, 3] 4 rfl)) rfl rfl rfl ?_
  rintro _ _ ⟨_, ⟨A6, n6, c6, rfl, rfl⟩, rfl⟩
  refine ⟨[boxC B3 24 [.slice A1 n1 c1, .slice A2 n2 c2], slC rDCell (.slice A1 n1 c1) a0.Young, slC rDCell (.slice A2 n2 c2) a0.Old], cv_sel [2, 3, 4] 5 rfl rfl, cv_refl _, ?_⟩
  refine T3_norm ([ownC rDCell 32 (.slice A6 n6 c6) y5, boxC B4 24 [.slice none 0 0, .slice none 0 0], boxC B3 24 [.slice A1 n1 c1, .slice A2 n2 c2], slC rDCell (.slice A1 n1 c1) a0.Young, slC rDCell (.slice A2 n2 c2) a0.Old]) rfl ?_
  obtain ⟨y7, hy7, h⟩ := bind_elim h
  refine T3_opd 7 rfl (by kernel_rfl) (op_callc (reach_bare_c1_ok hy7) call124 rfl rfl rfl (cv_take [4] [] [0, 1, 2, 3, 4] 5 rfl)) rfl rfl rfl ?_
  rintro _ _ ⟨_, ⟨A8, n8, c8, rfl, rfl⟩, rfl⟩
  refine ⟨[boxC B3 24 [.slice A1 n1 c1, .slice A2 n2 c2], slC rDCell (.slice A1 n1 c1) a0.Young, slC rDCell (.slice A2 n2 c2) a0.Old], cv_sel [3, 4, 5] 6 rfl rfl, cv_refl _, ?_⟩
  refine T3_norm ([ownC rDCell 32 (.slice A8 n8 c8) y7, ownC rDCell 32 (.slice A6 n6 c6) y5, boxC B4 24 [.slice none 0 0, .slice none 0 0], boxC B3 24 [.slice A1 n1 c1, .slice A2 n2 c2], slC rDCell (.slice A1 n1 c1) a0.Young, slC rDCell (.slice A2 n2 c2) a0.Old]) rfl ?_
  refine T3_ev 8 rfl (by kernel_rfl) (ev_build rfl (bld_24_0_1 _ _ _ _ _ _)) rfl rfl ?_
  refine T3_opn 9 rfl (by kernel_rfl) (op_store (us := [.slice A6 n6 c6, .slice A8 n8 c8]) (cs' := [.slice A6 n6 c6, .slice A8 n8 c8]) 2 rfl rfl rfl rfl size24 rfl rfl rfl) rfl rfl ?_
  rintro _ _ rfl
  refine ⟨[boxC B3 24 [.slice A1 n1 c1, .slice A2 n2 c2], slC rDCell (.slice A1 n1 c1) a0.Young, slC rDCell (.slice A2 n2 c2) a0.Old], cv_sel [3, 4, 5] 6 rfl rfl, cv_refl _, ?_⟩
  refine T3_norm ([ownC rDCell 32 (.slice A8 n8 c8) y7, ownC rDCell 32 (.slice A6 n6 c6) y5, boxC B4 24 [.slice A6 n6 c6, .slice A8 n8 c8], boxC B3 24 [.slice A1 n1 c1, .slice A2 n2 c2], slC rDCell (.slice A1 n1 c1) a0.Young, slC rDCell (.slice A2 n2 c2) a0.Old]) rfl ?_
  refine T3_done (by kernel_rfl) ?_
  refine run ?_
  obtain rfl := Option.some.inj h
  exact endGl (rs := [.cell 2 24]) (vs := [.agg #[.slice A6 n6 c6, .slice A8 n8 c8]]) rfl (.cons (rv_boxS 2 rfl rfl agg24) .nil) rfl (cv_sel [1, 0] 6 rfl rfl) ⟨_, _, _, _, _, _, rfl, rfl⟩
def reach_twins_value_O (N : Nat) (a0 : DTwins) (a1 : DValue) (a2 : DValue) : Option Bool :=
  (reach_address_O N a1).bind fun y12 => (reach_address_O N a2).bind fun y13 => (bif !y12.2 then (some true) else (some (!y13.2))).bind fun b14 => bif b14 then (some (decide (a1 = a2))) else ((bif !decide (a1.Kind = a2.Kind) then (some true) else (some (!(a1.S.toList == a2.S.toList)))).bind fun b16 => bif b16 then (some false) else ((bif !((lk a0.from_ y12.1).isSome) then (some true) else (some (!((lk a0.to_ y13.1).isSome)))).bind fun b18 => bif b18 then ((bif !((lk a0.from_ y12.1).isSome) then (some (!((lk a0.to_ y13.1).isSome))) else (some false)).bind fun b20 => (bif b20 then ((reach_Has_O N a0.a_ y12.1).bind fun y22 => (reach_Has_O N a0.b_ y13.1).bind fun y23 => some (y22 == y23)) else (some false)).bind fun b21 => some b21) else (some (decide ((lk a0.from_ y12.1).getD 0 = (lk a0.to_ y13.1).getD 0)))))
theorem reach_twins_value_ok {N : Nat} {a0 : DTwins} {a1 : DValue} {a2 : DValue} {r : Bool} (h : reach_twins_value_O N a0 a1 a2 = some r) {B1 : Nat} {A2 : Option Addr} {n2 c2 : Nat} {A3 : Option Addr} {n3 c3 : Nat} {A4 : Option Addr} {n4 c4 : Nat} {A5 : Option Addr} {n5 c5 : Nat} {A6 : Option Addr} {n6 c6 : Nat} {A7 : Option Addr} {n7 c7 : Nat} {M8 : Nat} {M9 : Nat} : Okc Tryz.prog 127 [.pointer (some ⟨B1, 0, none⟩), .agg #[.int .i64 a1.Kind, .int .i64 a1.N, .string a1.S], .agg #[.int .i64 a2.Kind, .int .i64 a2.N, .string a2.S]] ([rboxC B1 90 [.slice A2 n2 c2, .slice A3 n3 c3, .slice A4 n4 c4, .slice A5 n5 c5, .slice A6 n6 c6, .slice A7 n7 c7, .map (some M8), .map (some M9)], slC rDCell (.slice A2 n2 c2) a0.a_.Young, slC rDCell (.slice A3 n3 c3) a0.a_.Old, slC rDCell (.slice A4 n4 c4) a0.b_.Young, slC rDCell (.slice A5 n5 c5) a0.b_.Old, slC (rInt .i64) (.slice A6 n6 c6) a0.x_, slC (rInt .i64) (.slice A7 n7 c7) a0.y_, romC ekI evI M8 a0.from_, romC ekI evI M9 a0.to_]) (fun (u : Value) (post : List Chunk) => u = .bool r ∧ post = []) := by
  refine ok_E Tryz.func127 rfl rfl ?_
  simp only [envOf]
  refine run ?_
  refine G_opd (op_box rfl rfl) rfl rfl rfl ?_
  rintro _ _ ⟨B10, rfl, rfl⟩
  refine G_opd (op_box rfl rfl) rfl rfl rfl ?_
  rintro _ _ ⟨B11, rfl, rfl⟩
  refine run ?_
  refine G_rd (rd_boxS (us := [.int .i64 a1.Kind, .int .i64 a1.N, .string a1.S]) 1 rfl rfl agg38 rfl) rfl rfl rfl ?_
  obtain ⟨y12, hy12, h⟩ := bind_elim h
  refine G_opd (op_callR (reach_address_ok hy12) call51 rfl (mem_nil) reach_address_free) rfl rfl rfl ?_
  rintro _ _ ⟨_, ⟨rfl, rfl⟩, rfl⟩
  refine run ?_
  refine G_rd (rd_boxS (us := [.int .i64 a2.Kind, .int .i64 a2.N, .string a2.S]) 0 rfl rfl agg38 rfl) rfl rfl rfl ?_
  obtain ⟨y13, hy13, h⟩ := bind_elim h
  refine G_opd (op_callR (reach_address_ok hy13) call51 rfl (mem_nil) reach_address_free) rfl rfl rfl ?_
  rintro _ _ ⟨_, ⟨rfl, rfl⟩, rfl⟩
  refine run ?_
  refine G_seq ?_
  refine run ?_
  obtain ⟨b14, hb14, h⟩ := bind_elim h
  refine G_segb 3 30 b14 ?_ ?_
  · clear h
    refine G_case 27 rfl (fun g14 => ?_) (fun g14 => ?_)
    · have h := cond_t g14 hb14
      refine run ?_
      obtain rfl := Option.some.inj h
      exact G_joined (sub_cons rfl (sub_skip (sub_skip (sub_skip sub_refl rfl) rfl) rfl)) (cv_sel [0, 1, 2, 3, 4, 5, 6, 7, 8, 9, 10] 11 rfl rfl)
    · have h := cond_f g14 hb14
      refine run ?_
      obtain rfl := Option.some.inj h
      exact G_joined (sub_cons rfl (sub_skip (sub_skip (sub_skip sub_refl rfl) rfl) rfl)) (cv_sel [0, 1, 2, 3, 4, 5, 6, 7, 8, 9, 10] 11 rfl rfl)
  refine run ?_
  refine G_cond rfl (fun g15 => ?_) (fun g15 => ?_)
  · replace h := cond_t g15 h
    refine run ?_
    refine G_rd (rd_boxS (us := [.int .i64 a1.Kind, .int .i64 a1.N, .string a1.S]) 1 rfl rfl agg38 rfl) rfl rfl rfl ?_
    refine G_rd (rd_boxS (us := [.int .i64 a2.Kind, .int .i64 a2.N, .string a2.S]) 0 rfl rfl agg38 rfl) rfl rfl rfl ?_
    refine G_ev (ev_seq38 (x := a1) (y := a2) rfl rfl) rfl rfl rfl ?_
    refine run ?_
    obtain rfl := Option.some.inj h
    exact endG1 rfl rfl (cv_sel [] 11 rfl rfl) ⟨rfl, rfl⟩
  · replace h := cond_f g15 h
    refine run ?_
    refine G_seq ?_
    refine run ?_
    obtain ⟨b16, hb16, h⟩ := bind_elim h
    refine G_segb 6 45 b16 ?_ ?_
    · clear h
      refine G_case 39 rfl (fun g16 => ?_) (fun g16 => ?_)
      · have h := cond_t g16 hb16
        refine run ?_
        obtain rfl := Option.some.inj h
        exact G_joined (sub_cons rfl (sub_skip (sub_skip (sub_skip (sub_skip (sub_skip (sub_skip sub_refl rfl) rfl) rfl) rfl) rfl) rfl)) (cv_sel [0, 1, 2, 3, 4, 5, 6, 7, 8, 9, 10] 11 rfl rfl)
      · have h := cond_f g16 hb16
        refine run ?_
        refine G_ev (ev_strne rfl rfl) rfl (g_ff g16 rfl) rfl ?_
        refine run ?_
        obtain rfl := Option.some.inj h
        exact G_joined (sub_cons rfl (sub_skip (sub_skip (sub_skip (sub_skip (sub_skip (sub_skip sub_refl rfl) rfl) rfl) rfl) rfl) rfl)) (cv_sel [0, 1, 2, 3, 4, 5, 6, 7, 8, 9, 10] 11 rfl rfl)
    refine run ?_
    refine G_cond rfl (fun g17 => ?_) (fun g17 => ?_)
    · replace h := cond_t g17 h
      refine run ?_
      obtain rfl := Option.some.inj h
      exact endG1 rfl rfl (cv_sel [] 11 rfl rfl) ⟨rfl, rfl⟩
    · replace h := cond_f g17 h
      refine run ?_
      refine G_rd (rd_rbox1 2 rfl rfl one88 rfl) rfl rfl rfl ?_
      refine run ?_
      refine G_rd (rd_look2 (a := y12.1) (z := 0) 9 rfl map_ro rfl rfl Tryz.underlying88 (keyOk_int Tryz.underlying3) zero3) rfl rfl rfl ?_
      refine run ?_
      refine G_rd (rd_rbox1 2 rfl rfl one88 rfl) rfl rfl rfl ?_
      refine run ?_
      refine G_rd (rd_look2 (a := y13.1) (z := 0) 10 rfl map_ro rfl rfl Tryz.underlying88 (keyOk_int Tryz.underlying3) zero3) rfl rfl rfl ?_
      refine run ?_
      refine G_seq ?_
      refine run ?_
      obtain ⟨b18, hb18, h⟩ := bind_elim h
      refine G_segb 3 69 b18 ?_ ?_
      · clear h
        refine G_case 66 rfl (fun g18 => ?_) (fun g18 => ?_)
        · have h := cond_t g18 hb18
          refine run ?_
          obtain rfl := Option.some.inj h
          exact G_joined (sub_cons rfl (sub_skip (sub_skip (sub_skip sub_refl rfl) rfl) rfl)) (cv_sel [0, 1, 2, 3, 4, 5, 6, 7, 8, 9, 10] 11 rfl rfl)
        · have h := cond_f g18 hb18
          refine run ?_
          obtain rfl := Option.some.inj h
          exact G_joined (sub_cons rfl (sub_skip (sub_skip (sub_skip sub_refl rfl) rfl) rfl)) (cv_sel [0, 1, 2, 3, 4, 5, 6, 7, 8, 9, 10] 11 rfl rfl)
      refine run ?_
      refine G_cond rfl (fun g19 => ?_) (fun g19 => ?_)
      · replace h := cond_t g19 h
        refine G_seq ?_
        refine G_drawn (by kernel_rfl) _ (cv_refl _) ?_
        refine T3_ev 0 rfl (by kernel_rfl) (ev_move rfl) rfl rfl ?_
        refine T3_ev 1 rfl (by kernel_rfl) (ev_not rfl) rfl rfl ?_
        refine T3_ev 2 rfl (by kernel_rfl) (ev_move rfl) rfl rfl ?_
        obtain ⟨b20, hb20, h⟩ := bind_elim h
        refine T3_joinB (fun l => (((l.setIfInBounds 3 true).setIfInBounds 4 true).setIfInBounds 5 true)) 16 75 b20 (fun rest => ?_) ?_
        · clear h
          refine T3_case 72 rfl (fun g20 => ?_) (fun g20 => ?_)
          · have h := cond_t g20 hb20
            refine T3_ev 3 rfl (by kernel_rfl) (ev_move rfl) (g_tt g20 rfl) rfl ?_
            refine T3_ev 4 rfl (by kernel_rfl) (ev_not rfl) (g_tt g20 rfl) rfl ?_
            refine T3_ev 5 rfl (by kernel_rfl) (ev_pick_t' g20 rfl rfl) rfl rfl ?_
            obtain rfl := Option.some.inj h
            exact T3_sub rest (sub_cons rfl (sub_skip (sub_skip (sub_skip sub_refl rfl) rfl) rfl)) (cv_refl _) (cv_refl _)
          · have h := cond_f g20 hb20
            refine T3_no 3 rfl (by kernel_rfl) (g_tf g20 rfl) rfl ?_
            refine T3_no 4 rfl (by kernel_rfl) (g_tf g20 rfl) rfl ?_
            refine T3_ev 5 rfl (by kernel_rfl) (ev_pick_f' g20 rfl rfl) rfl rfl ?_
            obtain rfl := Option.some.inj h
            exact T3_sub rest (sub_cons rfl (sub_skip (sub_skip (sub_skip sub_refl rfl) rfl) rfl)) (cv_refl _) (cv_refl _)
        refine T3_ev 6 rfl (by kernel_rfl) (ev_move rfl) rfl rfl ?_
        obtain ⟨b21, hb21, h⟩ := bind_elim h
        refine T3_joinB (fun l => ((((((((((((((l.setIfInBounds 7 true).setIfInBounds 8 true).setIfInBounds 9 true).setIfInBounds 10 true).setIfInBounds 11 true).setIfInBounds 13 true).setIfInBounds 14 true).setIfInBounds 15 true).setIfInBounds 16 true).setIfInBounds 17 true).setIfInBounds 12 true).setIfInBounds 18 true).setIfInBounds 19 true).setIfInBounds 20 true)) 1 90 b21 (fun rest => ?_) ?_
        · clear h
          refine T3_case 76 rfl (fun g21 => ?_) (fun g21 => ?_)
          · have h := cond_t g21 hb21
            refine T3_ev 7 rfl (by kernel_rfl) (ev_move rfl) (g_tt g21 rfl) rfl ?_
            refine T3_ev 8 rfl (by kernel_rfl) (ev_nilCheck rfl) (g_tt g21 rfl) rfl ?_
            refine T3_ev 9 rfl (by kernel_rfl) (ev_fa0 rfl fa_90_0) (g_tt g21 rfl) rfl ?_
            refine T3_rd 10 rfl (by kernel_rfl) (rd_rboxS (us := [.slice A2 n2 c2, .slice A3 n3 c3]) 2 rfl rfl agg24 rfl) (g_tt g21 rfl) rfl ?_
            refine T3_ev 11 rfl (by kernel_rfl) (ev_move rfl) (g_tt g21 rfl) rfl ?_
            refine T3_ev 13 rfl (by kernel_rfl) (ev_move rfl) (g_tt g21 rfl) rfl ?_
            refine T3_ev 14 rfl (by kernel_rfl) (ev_nilCheck rfl) (g_tt g21 rfl) rfl ?_
            refine T3_ev 15 rfl (by kernel_rfl) (ev_fa rfl fa_90_1) (g_tt g21 rfl) rfl ?_
            refine T3_rd 16 rfl (by kernel_rfl) (rd_rboxS (us := [.slice A4 n4 c4, .slice A5 n5 c5]) 2 rfl rfl agg24 rfl) (g_tt g21 rfl) rfl ?_
            refine T3_ev 17 rfl (by kernel_rfl) (ev_move rfl) (g_tt g21 rfl) rfl ?_
            obtain ⟨y22, hy22, h⟩ := bind_elim h
            refine T3_opd 12 rfl (by kernel_rfl) (op_callR (reach_Has_ok hy22) call13 rfl (mem_cons (lent_ro (i := 3) rfl rfl) (mem_cons (lent_ro (i := 4) rfl rfl) mem_nil)) reach_Has_free) rfl (g_tt g21 rfl) rfl ?_
            rintro _ _ ⟨_, ⟨rfl, rfl⟩, rfl⟩
            refine ⟨_, cv_refl _, cv_refl _, ?_⟩
            obtain ⟨y23, hy23, h⟩ := bind_elim h
            refine T3_opd 18 rfl (by kernel_rfl) (op_callR (reach_Has_ok hy23) call13 rfl (mem_cons (lent_ro (i := 5) rfl rfl) (mem_cons (lent_ro (i := 6) rfl rfl) mem_nil)) reach_Has_free) rfl (g_tt g21 rfl) rfl ?_
            rintro _ _ ⟨_, ⟨rfl, rfl⟩, rfl⟩
            refine ⟨_, cv_refl _, cv_refl _, ?_⟩
            refine T3_ev 19 rfl (by kernel_rfl) (ev_beq rfl rfl Tryz.underlying4) (g_tt g21 rfl) rfl ?_
            refine T3_ev 20 rfl (by kernel_rfl) (ev_pick_t' g21 rfl rfl) rfl rfl ?_
            obtain rfl := Option.some.inj h
            exact T3_sub rest (sub_cons rfl (sub_skip (sub_skip (sub_skip (sub_skip (sub_skip (sub_skip (sub_skip (sub_skip (sub_skip (sub_skip (sub_skip (sub_skip (sub_skip (sub_skip sub_refl rfl) rfl) rfl) rfl) rfl) rfl) rfl) rfl) rfl) rfl) rfl) rfl) rfl) rfl)) (cv_refl _) (cv_refl _)
          · have h := cond_f g21 hb21
            refine T3_no 7 rfl (by kernel_rfl) (g_tf g21 rfl) rfl ?_
            refine T3_no 8 rfl (by kernel_rfl) (g_tf g21 rfl) rfl ?_
            refine T3_no 9 rfl (by kernel_rfl) (g_tf g21 rfl) rfl ?_
            refine T3_no 10 rfl (by kernel_rfl) (g_tf g21 rfl) rfl ?_
            refine T3_no 11 rfl (by kernel_rfl) (g_tf g21 rfl) rfl ?_
            refine T3_no 13 rfl (by kernel_rfl) (g_tf g21 rfl) rfl ?_
            refine T3_no 14 rfl (by kernel_rfl) (g_tf g21 rfl) rfl ?_
            refine T3_no 15 rfl (by kernel_rfl) (g_tf g21 rfl) rfl ?_
            refine T3_no 16 rfl (by kernel_rfl) (g_tf g21 rfl) rfl ?_
            refine T3_no 17 rfl (by kernel_rfl) (g_tf g21 rfl) rfl ?_
            refine T3_no 12 rfl (by kernel_rfl) (g_tf g21 rfl) rfl ?_
            refine T3_no 18 rfl (by kernel_rfl) (g_tf g21 rfl) rfl ?_
            refine T3_no 19 rfl (by kernel_rfl) (g_tf g21 rfl) rfl ?_
            refine T3_ev 20 rfl (by kernel_rfl) (ev_pick_f' g21 rfl rfl) rfl rfl ?_
            obtain rfl := Option.some.inj h
            exact T3_sub rest (sub_cons rfl (sub_skip (sub_skip (sub_skip (sub_skip (sub_skip (sub_skip (sub_skip (sub_skip (sub_skip (sub_skip (sub_skip (sub_skip (sub_skip (sub_skip sub_refl rfl) rfl) rfl) rfl) rfl) rfl) rfl) rfl) rfl) rfl) rfl) rfl) rfl) rfl)) (cv_refl _) (cv_refl _)
        refine T3_ev 21 rfl (by kernel_rfl) (ev_assign rfl) rfl rfl ?_
        refine T3_done (by kernel_rfl) ?_
        refine run ?_
        obtain rfl := Option.some.inj h
        exact endG1 rfl rfl (cv_sel [] 11 rfl rfl) ⟨rfl, rfl⟩
      · replace h := cond_f g19 h
        refine run ?_
        obtain rfl := Option.some.inj h
        exact endG1 rfl rfl (cv_sel [] 11 rfl rfl) ⟨rfl, rfl⟩
def slices_EqualFunc_j4 (N : Nat) (ff : (DValue × DValue) → Option Bool) : Option Bool :=
  some true
def slices_EqualFunc_l5 (N : Nat) (ff : (DValue × DValue) → Option Bool) (a0 : (List DValue)) (a1 : (List DValue)) : Nat → Int → Option Bool
  | 0, _ => none
  | m5 + 1, p6 => bif decide (p6 < (a0.length : Int)) then ((getE a0 p6).bind fun x8 => (getE a1 p6).bind fun x10 => (ff (x8, x10)).bind fun y12 => bif !y12 then (some false) else (req (in64 (p6 + 1)) ((slices_EqualFunc_l5 N ff a0 a1 m5) (p6 + 1)))) else (slices_EqualFunc_j4 N ff)
theorem slices_EqualFunc_l5_s {N m5 : Nat} {ff : (DValue × DValue) → Option Bool} {a0 : (List DValue)} {a1 : (List DValue)} {p6 : Int} : slices_EqualFunc_l5 N ff a0 a1 (m5 + 1) p6 = bif decide (p6 < (a0.length : Int)) then ((getE a0 p6).bind fun x8 => (getE a1 p6).bind fun x10 => (ff (x8, x10)).bind fun y12 => bif !y12 then (some false) else (req (in64 (p6 + 1)) ((slices_EqualFunc_l5 N ff a0 a1 m5) (p6 + 1)))) else (slices_EqualFunc_j4 N ff) := rfl
def slices_EqualFunc_O (N : Nat) (a0 : (List DValue)) (a1 : (List DValue)) (ff : (DValue × DValue) → Option Bool) : Option Bool :=
  bif !decide ((a0.length : Int) = (a1.length : Int)) then (some false) else (slices_EqualFunc_l5 N ff a0 a1 N 0)
theorem slices_EqualFunc_ok {N : Nat} {a0 : (List DValue)} {a1 : (List DValue)} {ff : (DValue × DValue) → Option Bool} {r : Bool} (h : slices_EqualFunc_O N a0 a1 ff = some r) {A1 : Option Addr} {n1 c1 : Nat} {A2 : Option Addr} {n2 c2 : Nat} {vf : Value} {G : List Chunk} (hf : FnOk Tryz.prog vf G (fun x => [.agg #[.int .i64 x.1.Kind, .int .i64 x.1.N, .string x.1.S], .agg #[.int .i64 x.2.Kind, .int .i64 x.2.N, .string x.2.S]]) (fun r => .bool r) ff) : Okc Tryz.prog 126 [.slice A1 n1 c1, .slice A2 n2 c2, vf] (slC rDValue (.slice A1 n1 c1) a0 :: slC rDValue (.slice A2 n2 c2) a1 :: G) (fun (u : Value) (post : List Chunk) => u = .bool r ∧ post = []) := by
  refine ok_E Tryz.func126 rfl rfl ?_
  simp only [envOf]
  refine run ?_
  refine G_seq ?_
  refine run ?_
  refine G_rd (rd_len 0 rfl els_sl rfl Tryz.underlying25) rfl rfl rfl ?_
  refine run ?_
  refine G_rd (rd_len 1 rfl els_sl rfl Tryz.underlying25) rfl rfl rfl ?_
  refine run ?_
  refine G_cond rfl (fun g3 => ?_) (fun g3 => ?_)
  · replace h := cond_t g3 h
    refine run ?_
    obtain rfl := Option.some.inj h
    exact endG1 rfl rfl (cv_selD [] 2 rfl rfl) ⟨rfl, rfl⟩
  · replace h := cond_f g3 h
    refine run ?_
    refine G_joinF (fun s L => slices_EqualFunc_j4 N ff = some r ∧ s = [(6, .bool false)] ∧ L = G) ?_ ?_
    · refine run ?_
      refine G_rd (rd_len 0 rfl els_sl rfl Tryz.underlying25) rfl rfl rfl ?_
      refine run ?_
      refine G_loopF (fun m s L => ∃ (p6 : Int), slices_EqualFunc_l5 N ff a0 a1 m p6 = some r ∧ s = [(1, .slice A2 n2 c2), (2, vf), (6, .bool false), (15, .slice A1 n1 c1), (16, .int .i64 (a0.length : Int)), (17, .int .i64 p6)] ∧ L = slC rDValue (.slice A2 n2 c2) a1 :: slC rDValue (.slice A1 n1 c1) a0 :: G) N _ _ ⟨0, h, rfl, rfl⟩ (sub_cons rfl (sub_cons rfl (sub_cons rfl (sub_cons rfl (sub_cons rfl (sub_cons rfl sub_nil)))))) (cv_sel [1, 0] 2 rfl rfl) ?_
      rintro (_ | m5) _ _ ⟨p6, h, rfl, rfl⟩
      · exact none_some h
      rw [slices_EqualFunc_l5_s] at h
      refine run ?_
      refine G_seq ?_
      refine G_cond rfl (fun g7 => ?_) (fun g7 => ?_)
      · replace h := cond_t g7 h
        refine run ?_
        refine G_seq ?_
        refine run ?_
        obtain ⟨x8, hx8, h⟩ := bind_elim h
        obtain ⟨lx8, ux8, hx8⟩ := getE_elim hx8
        refine G_rd (rd_idx 1 rfl els_sl rfl rfl Tryz.underlying25 size38 lx8 ux8) rfl rfl rfl ?_
        refine G_rd (rd_elemS (us := [.int .i64 x8.Kind, .int .i64 x8.N, .string x8.S]) 1 rfl els_sl rfl hx8 agg38 (fun _ _ _ h => by rw [show _ = _ from h]; rfl)) rfl rfl rfl ?_
        refine G_opd (op_alloc zero38 rfl) rfl rfl rfl ?_
        rintro _ _ ⟨B9, rfl, rfl⟩
        refine run ?_
        refine G_opn (op_store (us := [.int .i64 x8.Kind, .int .i64 x8.N, .string x8.S]) (cs' := [.int .i64 x8.Kind, .int .i64 x8.N, .string x8.S]) 0 rfl rfl rfl rfl size38 rfl rfl rfl) rfl rfl ?_
        rintro _ _ rfl
        refine G_norm (boxC B9 38 [.int .i64 x8.Kind, .int .i64 x8.N, .string x8.S] :: slC rDValue (.slice A2 n2 c2) a1 :: slC rDValue (.slice A1 n1 c1) a0 :: G) rfl ?_
        refine run ?_
        obtain ⟨x10, hx10, h⟩ := bind_elim h
        obtain ⟨lx10, ux10, hx10⟩ := getE_elim hx10
        refine G_rd (rd_idx 1 rfl els_sl rfl rfl Tryz.underlying25 size38 lx10 ux10) rfl rfl rfl ?_
        refine G_rd (rd_elemS (us := [.int .i64 x10.Kind, .int .i64 x10.N, .string x10.S]) 1 rfl els_sl rfl hx10 agg38 (fun _ _ _ h => by rw [show _ = _ from h]; rfl)) rfl rfl rfl ?_
        refine G_opd (op_alloc zero38 rfl) rfl rfl rfl ?_
        rintro _ _ ⟨B11, rfl, rfl⟩
        refine G_opn (op_store (us := [.int .i64 x10.Kind, .int .i64 x10.N, .string x10.S]) (cs' := [.int .i64 x10.Kind, .int .i64 x10.N, .string x10.S]) 0 rfl rfl rfl rfl size38 rfl rfl rfl) rfl rfl ?_
        rintro _ _ rfl
        refine G_norm (boxC B11 38 [.int .i64 x10.Kind, .int .i64 x10.N, .string x10.S] :: boxC B9 38 [.int .i64 x8.Kind, .int .i64 x8.N, .string x8.S] :: slC rDValue (.slice A2 n2 c2) a1 :: slC rDValue (.slice A1 n1 c1) a0 :: G) rfl ?_
        refine run ?_
        refine G_rd (rd_boxS (us := [.int .i64 x8.Kind, .int .i64 x8.N, .string x8.S]) 1 rfl rfl agg38 rfl) rfl rfl rfl ?_
        refine G_rd (rd_boxS (us := [.int .i64 x10.Kind, .int .i64 x10.N, .string x10.S]) 0 rfl rfl agg38 rfl) rfl rfl rfl ?_
        obtain ⟨y12, hy12, h⟩ := bind_elim h
        refine G_opd (op_callf (a := (x8, x10)) [boxC B11 38 [.int .i64 x10.Kind, .int .i64 x10.N, .string x10.S], boxC B9 38 [.int .i64 x8.Kind, .int .i64 x8.N, .string x8.S], slC rDValue (.slice A2 n2 c2) a1, slC rDValue (.slice A1 n1 c1) a0] hf hy12 rfl rfl) rfl rfl rfl ?_
        rintro _ _ ⟨rfl, rfl⟩
        refine G_norm (boxC B11 38 [.int .i64 x10.Kind, .int .i64 x10.N, .string x10.S] :: boxC B9 38 [.int .i64 x8.Kind, .int .i64 x8.N, .string x8.S] :: slC rDValue (.slice A2 n2 c2) a1 :: slC rDValue (.slice A1 n1 c1) a0 :: G) rfl ?_
        refine run ?_
        refine G_cond rfl (fun g13 => ?_) (fun g13 => ?_)
        · replace h := cond_t g13 h
          refine run ?_
          obtain rfl := Option.some.inj h
          exact endG1 rfl rfl (cv_selD [] 4 rfl rfl) ⟨rfl, rfl⟩
        · replace h := cond_f g13 h
          refine run ?_
          obtain ⟨q14, h⟩ := req_elim h
          refine G_ev (ev_add rfl rfl q14.1 q14.2) rfl rfl rfl ?_
          refine run ?_
          exact ⟨m5, _, _, Nat.lt_succ_self _, ⟨p6 + 1, h, rfl, rfl⟩, sub_cons rfl (sub_cons rfl (sub_cons rfl (sub_cons rfl (sub_cons rfl (sub_cons rfl sub_nil))))), cv_sel [2, 3] 4 rfl rfl⟩
      · replace h := cond_f g7 h
        refine run ?_
        exact ⟨_, _, ⟨h, rfl, rfl⟩, sub_cons rfl sub_nil, cv_sel [] 2 rfl rfl⟩
    · rintro _ _ ⟨h, rfl, rfl⟩
      refine run ?_
      obtain rfl := Option.some.inj h
      exact endG1 rfl rfl (cv_selD [] 0 rfl rfl) ⟨rfl, rfl⟩
theorem slices_EqualFunc_free {r : Bool} : ∀ v post, ((fun (u : Value) (post : List Chunk) => u = .bool r ∧ post = [])) v post → ∀ c ∈ post, Free c := by
  rintro _ _ ⟨rfl, rfl⟩; exact mem_nil
def reach_twins_values_O (N : Nat) (a0 : DTwins) (a1 : (List DValue)) (a2 : (List DValue)) : Option Bool :=
  (slices_EqualFunc_O N a1 a2 (fun x => reach_twins_value_O N a0 x.1 x.2)).bind fun y12 => some y12
theorem reach_twins_values_ok {N : Nat} {a0 : DTwins} {a1 : (List DValue)} {a2 : (List DValue)} {r : Bool} (h : reach_twins_values_O N a0 a1 a2 = some r) {B1 : Nat} {A2 : Option Addr} {n2 c2 : Nat} {A3 : Option Addr} {n3 c3 : Nat} {A4 : Option Addr} {n4 c4 : Nat} {A5 : Option Addr} {n5 c5 : Nat} {A6 : Option Addr} {n6 c6 : Nat} {A7 : Option Addr} {n7 c7 : Nat} {M8 : Nat} {M9 : Nat} {A10 : Option Addr} {n10 c10 : Nat} {A11 : Option Addr} {n11 c11 : Nat} : Okc Tryz.prog 71 [.pointer (some ⟨B1, 0, none⟩), .slice A10 n10 c10, .slice A11 n11 c11] ([rboxC B1 90 [.slice A2 n2 c2, .slice A3 n3 c3, .slice A4 n4 c4, .slice A5 n5 c5, .slice A6 n6 c6, .slice A7 n7 c7, .map (some M8), .map (some M9)], slC rDCell (.slice A2 n2 c2) a0.a_.Young, slC rDCell (.slice A3 n3 c3) a0.a_.Old, slC rDCell (.slice A4 n4 c4) a0.b_.Young, slC rDCell (.slice A5 n5 c5) a0.b_.Old, slC (rInt .i64) (.slice A6 n6 c6) a0.x_, slC (rInt .i64) (.slice A7 n7 c7) a0.y_, romC ekI evI M8 a0.from_, romC ekI evI M9 a0.to_, slC rDValue (.slice A10 n10 c10) a1, slC rDValue (.slice A11 n11 c11) a2]) (fun (u : Value) (post : List Chunk) => u = .bool r ∧ post = []) := by
  refine ok_E Tryz.func71 rfl rfl ?_
  simp only [envOf]
  refine run ?_
  refine G_ev (ev_makeFuncB (caps := []) rfl rfl) rfl rfl rfl ?_
  obtain ⟨y12, hy12, h⟩ := bind_elim h
  refine G_opd (op_callR (slices_EqualFunc_ok hy12 ⟨mem_cons rfl (mem_cons rfl (mem_cons rfl (mem_cons rfl (mem_cons rfl (mem_cons rfl (mem_cons rfl (mem_cons rfl (mem_cons rfl mem_nil)))))))), 127, #[.pointer (some ⟨B1, 0, none⟩)], #[], rfl, call127, fun _ _ hh => reach_twins_value_ok hh⟩) call126 rfl (mem_cons (lent_ro (i := 9) rfl rfl) (mem_cons (lent_ro (i := 10) rfl rfl) (mem_cons (lent_ro (i := 0) rfl rfl) (mem_cons (lent_ro (i := 1) rfl rfl) (mem_cons (lent_ro (i := 2) rfl rfl) (mem_cons (lent_ro (i := 3) rfl rfl) (mem_cons (lent_ro (i := 4) rfl rfl) (mem_cons (lent_ro (i := 5) rfl rfl) (mem_cons (lent_ro (i := 6) rfl rfl) (mem_cons (lent_ro (i := 7) rfl rfl) (mem_cons (lent_ro (i := 8) rfl rfl) mem_nil))))))))))) slices_EqualFunc_free) rfl rfl rfl ?_
  rintro _ _ ⟨_, ⟨rfl, rfl⟩, rfl⟩
  refine run ?_
  obtain rfl := Option.some.inj h
  exact endG1 rfl rfl (cv_sel [] 11 rfl rfl) ⟨rfl, rfl⟩
theorem reach_twins_values_free {r : Bool} : ∀ v post, ((fun (u : Value) (post : List Chunk) => u = .bool r ∧ post = [])) v post → ∀ c ∈ post, Free c := by
  rintro _ _ ⟨rfl, rfl⟩; exact mem_nil
def weak_Clean_c1_O (N : Nat) (a0 : DValue) (a1 : (List Int)) : Option Bool :=
  (slices_Contains_O N a1 a0.N).bind fun y4 => some y4
theorem weak_Clean_c1_ok {N : Nat} {a0 : DValue} {a1 : (List Int)} {r : Bool} (h : weak_Clean_c1_O N a0 a1 = some r) {B1 : Nat} {A2 : Option Addr} {n2 c2 : Nat} : Okc Tryz.prog 134 [.agg #[.int .i64 a0.Kind, .int .i64 a0.N, .string a0.S], .pointer (some ⟨B1, 0, none⟩)] ([rboxC B1 35 [.slice A2 n2 c2], slC (rInt .i64) (.slice A2 n2 c2) a1]) (fun (u : Value) (post : List Chunk) => u = .bool r ∧ post = []) := by
  refine ok_E Tryz.func134 rfl rfl ?_
  simp only [envOf]
  refine run ?_
  refine G_opd (op_box rfl rfl) rfl rfl rfl ?_
  rintro _ _ ⟨B3, rfl, rfl⟩
  refine run ?_
  refine G_rd (rd_rbox1 1 rfl rfl one35 rfl) rfl rfl rfl ?_
  refine run ?_
  obtain ⟨y4, hy4, h⟩ := bind_elim h
  refine G_opd (op_callR (slices_Contains_ok hy4) call101 rfl (mem_cons (lent_ro (i := 2) rfl rfl) mem_nil) slices_Contains_free) rfl rfl rfl ?_
  rintro _ _ ⟨_, ⟨rfl, rfl⟩, rfl⟩
  refine run ?_
  obtain rfl := Option.some.inj h
  exact endG1 rfl rfl (cv_sel [] 3 rfl rfl) ⟨rfl, rfl⟩
end Go.Proofs.YtmbaennilhdieaaGreat
