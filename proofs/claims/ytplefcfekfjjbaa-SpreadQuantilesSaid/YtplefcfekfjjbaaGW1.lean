/- The walks of token.Check, gladstoneref08.Ints, gladstoneref57.Quantile, slices.Values[[]int,int], slices.Sorted[int], spread.Quantile, spread.Buckets, spread.Lens, gladstonelaw57.awake, gladstonelaw57.SpreadQuantiles. -/
import Derived.Test.YtplefcfekfjjbaaSt
import Derived.Test.YtplefcfekfjjbaaGS1
import Derived.Test.YtplefcfekfjjbaaGS2
set_option linter.unusedVariables false
set_option linter.unusedSimpArgs false
namespace Go.Proofs.Ytplefcfekfjjbaa
open Go Go.GX Go.GL

set_option maxRecDepth 100000 in
theorem f_token_Check (C : World → Prop) (hC : Cl C) (t : Tok) : ∀ w, C w → Calls Try.prog 13 #[.agg (iv t.l).toArray] w (fun en w' => en = .returned (.int .i64 (tokErr t)) ∧ Ext w w') := by
  intro w hw
  refine calls_q (N := 77) (args := [.agg (iv t.l).toArray]) Try.func13 rfl Try.ntmps13 rfl (fun B hB => ?_)
  refine ct_seq ?_
  refine ct_region ?_
  refine sw_e rfl (e_box rfl) rfl rfl (fun _ => HS.cl) (fun b1 _ => ?_)
  refine sw_q rfl (q_assign rfl) rfl rfl ?_
  refine sw_nil ?_
  refine pt_then ?_
  refine ct_seq ?_
  refine ct_region ?_
  refine sw_q rfl (q_assign rfl) rfl rfl ?_
  refine sw_nil ?_
  refine pt_then ?_
  refine ct_join (fun x : Bool => [(1, .pointer (some ⟨b1, 0, none⟩)), (2, .int .i64 0), (3, .bool x)]) (fun _ => HS B [(b1, .cells (Value.agg (iv t.l).toArray).cells 35 (0, 0))]) (fun x => x = true ↔ tokPart t) (fun _ => HS.cl) ?_ ?_
  · skip
    refine ct_seq ?_
    refine ct_region ?_
    refine sw_q rfl (q_fieldAddr 0 rfl (by kernel_rfl)) rfl rfl ?_
    refine sw_q rfl (q_load rfl Try.underlying3 rfl (ld_own 0 rfl rfl)) rfl rfl ?_
    refine sw_nil ?_
    refine pt_then ?_
    refine ct_block ?_
    refine ct_seq ?_
    refine ct_region ?_
    refine sw_q rfl (q_eql rfl rfl) rfl rfl ?_
    refine sw_q rfl (q_assign rfl) rfl rfl ?_
    refine sw_nil ?_
    refine pt_then ?_
    refine ct_if rfl (fun c6 => ?_) (fun c6 => ?_)
    · skip
      refine ct_region ?_
      refine sw_q rfl (q_fieldAddr 1 rfl (by kernel_rfl)) rfl rfl ?_
      refine sw_q rfl (q_load rfl Try.underlying3 rfl (ld_own 0 rfl rfl)) rfl rfl ?_
      refine sw_q rfl (q_geq rfl rfl) rfl rfl ?_
      refine sw_qd rfl (q_move rfl) rfl rfl (fun h11 => ?_) (fun h11 => ?_)
      · skip
        refine sw_q rfl (q_fieldAddr 1 rfl (by kernel_rfl)) rfl rfl ?_
        refine sw_q rfl (q_load rfl Try.underlying3 rfl (ld_own 0 rfl rfl)) rfl rfl ?_
        refine sw_q rfl (q_leq rfl rfl) rfl rfl ?_
        refine sw_q rfl (q_pick_t rfl rfl) rfl rfl ?_
        refine sw_qd rfl (q_move rfl) rfl rfl (fun h16 => ?_) (fun h16 => ?_)
        · skip
          refine sw_q rfl (q_loads (vs := iv t.l) rfl Try.underlying35 rfl (by kernel_rfl) rfl (lds_own 0 (n := 5) rfl rfl)) rfl rfl ?_
          refine sw_q rfl (q_fieldAddr 1 rfl (by kernel_rfl)) rfl rfl ?_
          refine sw_q rfl (q_load rfl Try.underlying3 rfl (ld_own 0 rfl rfl)) rfl rfl ?_
          refine sw_q rfl (q_build (vs := [(1, .int .i64 t.byte)]) (v := .agg (iv [0, t.byte, 0, 0, 0]).toArray) rfl (fun w => by kernel_rfl)) rfl rfl ?_
          refine sw_q rfl (q_eqf (k := 5) (a := t.l) (b := [0, t.byte, 0, 0, 0]) rfl rfl (by kernel_rfl) rfl rfl) rfl rfl ?_
          refine sw_qd rfl (q_pick_t rfl rfl) rfl rfl (fun h22 => ?_) (fun h22 => ?_)
          · skip
            refine sw_q rfl (q_assign rfl) rfl rfl ?_
            refine sw_nil ?_
            refine pt_block_normal ?_
            exact pt_join true ⟨fun _ => (by first | omega | (simp only [ne_eq, Tok.l, List.cons.injEq, and_true, true_and, not_and, tokPart, tokOk] at *; omega)), fun _ => rfl⟩ ⟨rfl, rfl, rfl, trivial⟩ (fun _ h => h)
          · skip
            refine sw_q rfl (q_assign rfl) rfl rfl ?_
            refine sw_nil ?_
            refine pt_block_normal ?_
            exact pt_join false ⟨(fun h => by cases h), fun h => by exfalso; revert h; first | omega | (simp only [ne_eq, Tok.l, List.cons.injEq, and_true, true_and, not_and, tokPart, tokOk] at *; omega)⟩ ⟨rfl, rfl, rfl, trivial⟩ (fun _ h => h)
        · skip
          refine sw_skip rfl rfl rfl ?_
          refine sw_skip rfl rfl rfl ?_
          refine sw_skip rfl rfl rfl ?_
          refine sw_skip rfl rfl rfl ?_
          refine sw_skip rfl rfl rfl ?_
          refine sw_q rfl (q_pick_f rfl rfl) rfl rfl ?_
          refine sw_q rfl (q_assign rfl) rfl rfl ?_
          refine sw_nil ?_
          refine pt_block_normal ?_
          exact pt_join false ⟨(fun h => by cases h), fun h => by exfalso; revert h; first | omega | (simp only [ne_eq, Tok.l, List.cons.injEq, and_true, true_and, not_and, tokPart, tokOk] at *; omega)⟩ ⟨rfl, rfl, rfl, trivial⟩ (fun _ h => h)
      · skip
        refine sw_skip rfl rfl rfl ?_
        refine sw_skip rfl rfl rfl ?_
        refine sw_skip rfl rfl rfl ?_
        refine sw_q rfl (q_pick_f rfl rfl) rfl rfl ?_
        refine sw_q rfl (q_move rfl) rfl rfl ?_
        refine sw_skip rfl rfl rfl ?_
        refine sw_skip rfl rfl rfl ?_
        refine sw_skip rfl rfl rfl ?_
        refine sw_skip rfl rfl rfl ?_
        refine sw_skip rfl rfl rfl ?_
        refine sw_q rfl (q_pick_f rfl rfl) rfl rfl ?_
        refine sw_q rfl (q_assign rfl) rfl rfl ?_
        refine sw_nil ?_
        refine pt_block_normal ?_
        exact pt_join false ⟨(fun h => by cases h), fun h => by exfalso; revert h; first | omega | (simp only [ne_eq, Tok.l, List.cons.injEq, and_true, true_and, not_and, tokPart, tokOk] at *; omega)⟩ ⟨rfl, rfl, rfl, trivial⟩ (fun _ h => h)
    · skip
      refine ct_seq ?_
      refine ct_region ?_
      refine sw_q rfl (q_eql rfl rfl) rfl rfl ?_
      refine sw_q rfl (q_assign rfl) rfl rfl ?_
      refine sw_nil ?_
      refine pt_then ?_
      refine ct_if rfl (fun c23 => ?_) (fun c23 => ?_)
      · skip
        refine ct_region ?_
        refine sw_q rfl (q_fieldAddr 3 rfl (by kernel_rfl)) rfl rfl ?_
        refine sw_q rfl (q_load rfl Try.underlying3 rfl (ld_own 0 rfl rfl)) rfl rfl ?_
        refine sw_q rfl (q_geq rfl rfl) rfl rfl ?_
        refine sw_qd rfl (q_move rfl) rfl rfl (fun h28 => ?_) (fun h28 => ?_)
        · skip
          refine sw_q rfl (q_fieldAddr 3 rfl (by kernel_rfl)) rfl rfl ?_
          refine sw_q rfl (q_load rfl Try.underlying3 rfl (ld_own 0 rfl rfl)) rfl rfl ?_
          refine sw_q rfl (q_leq rfl rfl) rfl rfl ?_
          refine sw_q rfl (q_pick_t rfl rfl) rfl rfl ?_
          refine sw_qd rfl (q_move rfl) rfl rfl (fun h33 => ?_) (fun h33 => ?_)
          · skip
            refine sw_q rfl (q_loads (vs := iv t.l) rfl Try.underlying35 rfl (by kernel_rfl) rfl (lds_own 0 (n := 5) rfl rfl)) rfl rfl ?_
            refine sw_q rfl (q_fieldAddr 2 rfl (by kernel_rfl)) rfl rfl ?_
            refine sw_q rfl (q_load rfl Try.underlying3 rfl (ld_own 0 rfl rfl)) rfl rfl ?_
            refine sw_q rfl (q_fieldAddr 3 rfl (by kernel_rfl)) rfl rfl ?_
            refine sw_q rfl (q_load rfl Try.underlying3 rfl (ld_own 0 rfl rfl)) rfl rfl ?_
            refine sw_q rfl (q_build (vs := [(0, .int .i64 1), (2, .int .i64 t.len), (3, .int .i64 t.dist)]) (v := .agg (iv [1, 0, t.len, t.dist, 0]).toArray) rfl (fun w => by kernel_rfl)) rfl rfl ?_
            refine sw_q rfl (q_eqf (k := 5) (a := t.l) (b := [1, 0, t.len, t.dist, 0]) rfl rfl (by kernel_rfl) rfl rfl) rfl rfl ?_
            refine sw_qd rfl (q_pick_t rfl rfl) rfl rfl (fun h41 => ?_) (fun h41 => ?_)
            · skip
              refine sw_q rfl (q_assign rfl) rfl rfl ?_
              refine sw_nil ?_
              refine pt_block_normal ?_
              exact pt_join true ⟨fun _ => (by first | omega | (simp only [ne_eq, Tok.l, List.cons.injEq, and_true, true_and, not_and, tokPart, tokOk] at *; omega)), fun _ => rfl⟩ ⟨rfl, rfl, rfl, trivial⟩ (fun _ h => h)
            · skip
              refine sw_q rfl (q_assign rfl) rfl rfl ?_
              refine sw_nil ?_
              refine pt_block_normal ?_
              exact pt_join false ⟨(fun h => by cases h), fun h => by exfalso; revert h; first | omega | (simp only [ne_eq, Tok.l, List.cons.injEq, and_true, true_and, not_and, tokPart, tokOk] at *; omega)⟩ ⟨rfl, rfl, rfl, trivial⟩ (fun _ h => h)
          · skip
            refine sw_skip rfl rfl rfl ?_
            refine sw_skip rfl rfl rfl ?_
            refine sw_skip rfl rfl rfl ?_
            refine sw_skip rfl rfl rfl ?_
            refine sw_skip rfl rfl rfl ?_
            refine sw_skip rfl rfl rfl ?_
            refine sw_skip rfl rfl rfl ?_
            refine sw_q rfl (q_pick_f rfl rfl) rfl rfl ?_
            refine sw_q rfl (q_assign rfl) rfl rfl ?_
            refine sw_nil ?_
            refine pt_block_normal ?_
            exact pt_join false ⟨(fun h => by cases h), fun h => by exfalso; revert h; first | omega | (simp only [ne_eq, Tok.l, List.cons.injEq, and_true, true_and, not_and, tokPart, tokOk] at *; omega)⟩ ⟨rfl, rfl, rfl, trivial⟩ (fun _ h => h)
        · skip
          refine sw_skip rfl rfl rfl ?_
          refine sw_skip rfl rfl rfl ?_
          refine sw_skip rfl rfl rfl ?_
          refine sw_q rfl (q_pick_f rfl rfl) rfl rfl ?_
          refine sw_q rfl (q_move rfl) rfl rfl ?_
          refine sw_skip rfl rfl rfl ?_
          refine sw_skip rfl rfl rfl ?_
          refine sw_skip rfl rfl rfl ?_
          refine sw_skip rfl rfl rfl ?_
          refine sw_skip rfl rfl rfl ?_
          refine sw_skip rfl rfl rfl ?_
          refine sw_skip rfl rfl rfl ?_
          refine sw_q rfl (q_pick_f rfl rfl) rfl rfl ?_
          refine sw_q rfl (q_assign rfl) rfl rfl ?_
          refine sw_nil ?_
          refine pt_block_normal ?_
          exact pt_join false ⟨(fun h => by cases h), fun h => by exfalso; revert h; first | omega | (simp only [ne_eq, Tok.l, List.cons.injEq, and_true, true_and, not_and, tokPart, tokOk] at *; omega)⟩ ⟨rfl, rfl, rfl, trivial⟩ (fun _ h => h)
      · skip
        refine ct_seq ?_
        refine ct_region ?_
        refine sw_q rfl (q_eql rfl rfl) rfl rfl ?_
        refine sw_q rfl (q_assign rfl) rfl rfl ?_
        refine sw_nil ?_
        refine pt_then ?_
        refine ct_if rfl (fun c42 => ?_) (fun c42 => ?_)
        · skip
          refine ct_region ?_
          refine sw_q rfl (q_fieldAddr 4 rfl (by kernel_rfl)) rfl rfl ?_
          refine sw_q rfl (q_load rfl Try.underlying3 rfl (ld_own 0 rfl rfl)) rfl rfl ?_
          refine sw_q rfl (q_geq rfl rfl) rfl rfl ?_
          refine sw_qd rfl (q_move rfl) rfl rfl (fun h47 => ?_) (fun h47 => ?_)
          · skip
            refine sw_q rfl (q_fieldAddr 4 rfl (by kernel_rfl)) rfl rfl ?_
            refine sw_q rfl (q_load rfl Try.underlying3 rfl (ld_own 0 rfl rfl)) rfl rfl ?_
            refine sw_q rfl (q_lss rfl rfl) rfl rfl ?_
            refine sw_q rfl (q_pick_t rfl rfl) rfl rfl ?_
            refine sw_qd rfl (q_move rfl) rfl rfl (fun h52 => ?_) (fun h52 => ?_)
            · skip
              refine sw_q rfl (q_loads (vs := iv t.l) rfl Try.underlying35 rfl (by kernel_rfl) rfl (lds_own 0 (n := 5) rfl rfl)) rfl rfl ?_
              refine sw_q rfl (q_fieldAddr 2 rfl (by kernel_rfl)) rfl rfl ?_
              refine sw_q rfl (q_load rfl Try.underlying3 rfl (ld_own 0 rfl rfl)) rfl rfl ?_
              refine sw_q rfl (q_fieldAddr 4 rfl (by kernel_rfl)) rfl rfl ?_
              refine sw_q rfl (q_load rfl Try.underlying3 rfl (ld_own 0 rfl rfl)) rfl rfl ?_
              refine sw_q rfl (q_build (vs := [(0, .int .i64 2), (2, .int .i64 t.len), (4, .int .i64 t.rep)]) (v := .agg (iv [2, 0, t.len, 0, t.rep]).toArray) rfl (fun w => by kernel_rfl)) rfl rfl ?_
              refine sw_q rfl (q_eqf (k := 5) (a := t.l) (b := [2, 0, t.len, 0, t.rep]) rfl rfl (by kernel_rfl) rfl rfl) rfl rfl ?_
              refine sw_qd rfl (q_pick_t rfl rfl) rfl rfl (fun h60 => ?_) (fun h60 => ?_)
              · skip
                refine sw_q rfl (q_assign rfl) rfl rfl ?_
                refine sw_nil ?_
                refine pt_block_normal ?_
                exact pt_join true ⟨fun _ => (by first | omega | (simp only [ne_eq, Tok.l, List.cons.injEq, and_true, true_and, not_and, tokPart, tokOk] at *; omega)), fun _ => rfl⟩ ⟨rfl, rfl, rfl, trivial⟩ (fun _ h => h)
              · skip
                refine sw_q rfl (q_assign rfl) rfl rfl ?_
                refine sw_nil ?_
                refine pt_block_normal ?_
                exact pt_join false ⟨(fun h => by cases h), fun h => by exfalso; revert h; first | omega | (simp only [ne_eq, Tok.l, List.cons.injEq, and_true, true_and, not_and, tokPart, tokOk] at *; omega)⟩ ⟨rfl, rfl, rfl, trivial⟩ (fun _ h => h)
            · skip
              refine sw_skip rfl rfl rfl ?_
              refine sw_skip rfl rfl rfl ?_
              refine sw_skip rfl rfl rfl ?_
              refine sw_skip rfl rfl rfl ?_
              refine sw_skip rfl rfl rfl ?_
              refine sw_skip rfl rfl rfl ?_
              refine sw_skip rfl rfl rfl ?_
              refine sw_q rfl (q_pick_f rfl rfl) rfl rfl ?_
              refine sw_q rfl (q_assign rfl) rfl rfl ?_
              refine sw_nil ?_
              refine pt_block_normal ?_
              exact pt_join false ⟨(fun h => by cases h), fun h => by exfalso; revert h; first | omega | (simp only [ne_eq, Tok.l, List.cons.injEq, and_true, true_and, not_and, tokPart, tokOk] at *; omega)⟩ ⟨rfl, rfl, rfl, trivial⟩ (fun _ h => h)
          · skip
            refine sw_skip rfl rfl rfl ?_
            refine sw_skip rfl rfl rfl ?_
            refine sw_skip rfl rfl rfl ?_
            refine sw_q rfl (q_pick_f rfl rfl) rfl rfl ?_
            refine sw_q rfl (q_move rfl) rfl rfl ?_
            refine sw_skip rfl rfl rfl ?_
            refine sw_skip rfl rfl rfl ?_
            refine sw_skip rfl rfl rfl ?_
            refine sw_skip rfl rfl rfl ?_
            refine sw_skip rfl rfl rfl ?_
            refine sw_skip rfl rfl rfl ?_
            refine sw_skip rfl rfl rfl ?_
            refine sw_q rfl (q_pick_f rfl rfl) rfl rfl ?_
            refine sw_q rfl (q_assign rfl) rfl rfl ?_
            refine sw_nil ?_
            refine pt_block_normal ?_
            exact pt_join false ⟨(fun h => by cases h), fun h => by exfalso; revert h; first | omega | (simp only [ne_eq, Tok.l, List.cons.injEq, and_true, true_and, not_and, tokPart, tokOk] at *; omega)⟩ ⟨rfl, rfl, rfl, trivial⟩ (fun _ h => h)
        · skip
          refine ct_skip ?_
          refine pt_block_normal ?_
          exact pt_join false ⟨(fun h => by cases h), fun h => by exfalso; revert h; first | omega | (simp only [ne_eq, Tok.l, List.cons.injEq, and_true, true_and, not_and, tokPart, tokOk] at *; omega)⟩ ⟨rfl, rfl, rfl, trivial⟩ (fun _ h => h)
  · rintro x hx
    refine ct_join (fun x : Bool => [(1, .pointer (some ⟨b1, 0, none⟩)), (2, .int .i64 0), (3, .bool x)]) (fun _ => HS B [(b1, .cells (Value.agg (iv t.l).toArray).cells 35 (0, 0))]) (fun x => x = true ↔ tokOk t) (fun _ => HS.cl) ?_ ?_
    · skip
      refine ct_test 66 (x = true ∧ t.kind ≠ 0) ?_ ?_
      · skip
        refine ct_region ?_
        refine sw_q rfl (q_move rfl) rfl rfl ?_
        refine sw_qb rfl (q_move rfl) rfl rfl (fun h62 => ?_) (fun h62 => ?_)
        · skip
          refine sw_q rfl (q_fieldAddr 0 rfl (by kernel_rfl)) rfl rfl ?_
          refine sw_q rfl (q_load rfl Try.underlying3 rfl (ld_own 0 rfl rfl)) rfl rfl ?_
          refine sw_q rfl (q_neq rfl rfl) rfl rfl ?_
          refine sw_qd rfl (q_pick_t rfl rfl) rfl rfl (fun h66 => ?_) (fun h66 => ?_)
          · skip
            refine sw_nil ?_
            exact pt_test 6 true rfl rfl rfl (decide_eq_true (by simp [*]))
          · skip
            refine sw_nil ?_
            exact pt_test 6 false rfl rfl rfl (decide_eq_false (by simp [*]))
        · skip
          refine sw_skip rfl rfl rfl ?_
          refine sw_skip rfl rfl rfl ?_
          refine sw_skip rfl rfl rfl ?_
          refine sw_q rfl (q_pick_f rfl rfl) rfl rfl ?_
          refine sw_nil ?_
          exact pt_test 6 false rfl rfl rfl (decide_eq_false (by simp [*]))
      · skip
        refine ct_if rfl (fun c66 => ?_) (fun c66 => ?_)
        · skip
          refine ct_region ?_
          refine sw_q rfl (q_fieldAddr 2 rfl (by kernel_rfl)) rfl rfl ?_
          refine sw_q rfl (q_load rfl Try.underlying3 rfl (ld_own 0 rfl rfl)) rfl rfl ?_
          refine sw_q rfl (q_geq rfl rfl) rfl rfl ?_
          refine sw_qd rfl (q_move rfl) rfl rfl (fun h70 => ?_) (fun h70 => ?_)
          · skip
            refine sw_q rfl (q_fieldAddr 2 rfl (by kernel_rfl)) rfl rfl ?_
            refine sw_q rfl (q_load rfl Try.underlying3 rfl (ld_own 0 rfl rfl)) rfl rfl ?_
            refine sw_q rfl (q_leq rfl rfl) rfl rfl ?_
            refine sw_qd rfl (q_pick_t rfl rfl) rfl rfl (fun h74 => ?_) (fun h74 => ?_)
            · skip
              refine sw_q rfl (q_assign rfl) rfl rfl ?_
              refine sw_nil ?_
              exact pt_join true ⟨fun _ => by rw [hx] at c66; simp only [tokPart, tokOk] at *; omega, fun _ => rfl⟩ ⟨rfl, rfl, rfl, trivial⟩ (fun _ h => h)
            · skip
              refine sw_q rfl (q_assign rfl) rfl rfl ?_
              refine sw_nil ?_
              exact pt_join false ⟨(fun h => by cases h), fun h => by exfalso; simp only [tokOk] at h; omega⟩ ⟨rfl, rfl, rfl, trivial⟩ (fun _ h => h)
          · skip
            refine sw_skip rfl rfl rfl ?_
            refine sw_skip rfl rfl rfl ?_
            refine sw_skip rfl rfl rfl ?_
            refine sw_q rfl (q_pick_f rfl rfl) rfl rfl ?_
            refine sw_q rfl (q_assign rfl) rfl rfl ?_
            refine sw_nil ?_
            exact pt_join false ⟨(fun h => by cases h), fun h => by exfalso; simp only [tokOk] at h; omega⟩ ⟨rfl, rfl, rfl, trivial⟩ (fun _ h => h)
        · skip
          refine ct_skip ?_
          exact pt_join x ⟨fun h => by rw [hx] at h c66; simp only [tokPart, tokOk] at *; omega, fun h => by rw [hx]; simp only [tokPart, tokOk] at *; omega⟩ ⟨rfl, rfl, rfl, trivial⟩ (fun _ h => h)
    · rintro z hz
      refine ct_seq ?_
      refine ct_seq ?_
      refine ct_region ?_
      refine sw_q rfl (q_move rfl) rfl rfl ?_
      refine sw_q rfl (q_not rfl) rfl rfl ?_
      refine sw_nil ?_
      refine pt_then ?_
      refine ct_ifb rfl (fun c76 => ?_) (fun c76 => ?_)
      · skip
        refine ct_seq ?_
        refine ct_region ?_
        refine sw_q rfl (q_assign rfl) rfl rfl ?_
        refine sw_nil ?_
        refine pt_then ?_
        refine ct_ret ?_
        refine pt_then_ret ?_
        exact pt_res (res_1 rfl rfl) (fun _ h => ⟨ret_i (by rw [tokErr, if_neg (fun h => by rw [← hz] at h; simp [h] at c76)]), _, h⟩)
      · skip
        refine ct_skip ?_
        refine pt_then ?_
        refine ct_seq ?_
        refine ct_region ?_
        refine sw_q rfl (q_assign rfl) rfl rfl ?_
        refine sw_nil ?_
        refine pt_then ?_
        refine ct_ret ?_
        exact pt_res (res_1 rfl rfl) (fun _ h => ⟨ret_i (by rw [tokErr, if_pos (hz.1 (by simpa using c76))]), _, h⟩)

set_option maxRecDepth 100000 in
theorem f_Ints (C : World → Prop) (hC : Cl C) (A A2 : Option Addr) (n n2 c c2 : Nat) (xs ys : List Int) (hl : n ≤ 1099511627776) (hl2 : n2 ≤ 1099511627776) (hs : SlI C A n xs) (hy : SlI C A2 n2 ys) : ∀ w, C w → Calls Try.prog 7 #[.slice A n c, .slice A2 n2 c2] w (fun en w' => en = .returned (.bool (decide (xs = ys))) ∧ Ext w w') := by
  intro w hw
  have hC' : Cl (fun w' => C w' ∧ Ext w w') := fun _ _ h hx => ⟨hC _ _ h.1 hx, h.2.trans hx⟩
  have hs' : SlI (fun w' => C w' ∧ Ext w w') A n xs := hs.mono fun _ h => h.1
  have hlen := hs.len
  have hy' : SlI (fun w' => C w' ∧ Ext w w') A2 n2 ys := hy.mono fun _ h => h.1
  have hlen2 := hy.len
  refine calls_p (N := 26) (args := [.slice A n c, .slice A2 n2 c2]) hC hw Try.func7 rfl Try.ntmps7 rfl ?_
  refine ct_seq ?_
  refine ct_region ?_
  refine sw_q rfl (q_assign rfl) rfl rfl ?_
  refine sw_nil ?_
  refine pt_then ?_
  refine ct_seq ?_
  refine ct_seq ?_
  refine ct_region ?_
  refine sw_q rfl (q_move rfl) rfl rfl ?_
  refine sw_q rfl (q_len_slice rfl Try.underlying22) rfl rfl ?_
  refine sw_q rfl (q_move rfl) rfl rfl ?_
  refine sw_q rfl (q_len_slice rfl Try.underlying22) rfl rfl ?_
  refine sw_q rfl (q_neq rfl rfl) rfl rfl ?_
  refine sw_nil ?_
  refine pt_then ?_
  refine ct_if rfl (fun c10 => ?_) (fun c10 => ?_)
  · skip
    refine ct_seq ?_
    refine ct_region ?_
    refine sw_q rfl (q_assign rfl) rfl rfl ?_
    refine sw_nil ?_
    refine pt_then ?_
    refine ct_ret ?_
    refine pt_then_ret ?_
    exact pt_res (res_1 rfl rfl) (fun _ h => ⟨ret_b (by symm; apply decide_eq_false; intro he; subst he; omega), h⟩)
  · skip
    refine ct_skip ?_
    refine pt_then ?_
    refine ct_seq ?_
    refine ct_seq ?_
    refine ct_region ?_
    refine sw_q rfl (q_assign rfl) rfl rfl ?_
    refine sw_nil ?_
    refine pt_then ?_
    refine ct_block ?_
    refine ct_loop (fun k : Int => [(0, .slice A n c), (1, .slice A2 n2 c2), (5, .int .i64 k)]) (fun _ w' => C w' ∧ Ext w w') (fun k => 0 ≤ k ∧ k ≤ n ∧ (xs.drop k.toNat = ys.drop k.toNat ↔ xs = ys)) (fun k => (n - k).toNat) 0 (fun _ => hC') ⟨by omega, by omega, by simp⟩ ⟨rfl, rfl, rfl, trivial⟩ (fun _ h => h) ?_
    rintro k ⟨hk0, hk1, hI⟩
    refine ct_seq ?_
    refine ct_seq ?_
    refine ct_region ?_
    refine sw_q rfl (q_move rfl) rfl rfl ?_
    refine sw_q rfl (q_move rfl) rfl rfl ?_
    refine sw_q rfl (q_len_slice rfl Try.underlying22) rfl rfl ?_
    refine sw_q rfl (q_lss rfl rfl) rfl rfl ?_
    refine sw_nil ?_
    refine pt_then ?_
    refine ct_if rfl (fun c14 => ?_) (fun c14 => ?_)
    · skip
      refine ct_skip ?_
      refine pt_then ?_
      refine ct_seq ?_
      refine ct_block ?_
      refine ct_seq ?_
      refine ct_draw [0, 0, 3, 7, 0, 0, 48, 112, 255] [0, 1, 2, 3, 4, 5, 6, 7, 8] [] (by kernel_rfl) (by kernel_rfl) ?_
      refine mw_q rfl rfl (q_move rfl) rfl rfl ?_
      refine mw_q rfl rfl (q_move rfl) rfl rfl ?_
      refine mw_q rfl rfl (q_idx rfl rfl Try.underlying22 (sz := 1) (by kernel_rfl) hs.some (by omega)) rfl rfl ?_
      refine mw_q rfl rfl (q_load rfl Try.underlying3 rfl (hs'.get (by omega))) rfl rfl ?_
      refine mw_q rfl rfl (q_move rfl) rfl rfl ?_
      refine mw_q rfl rfl (q_move rfl) rfl rfl ?_
      refine mw_q rfl rfl (q_idx rfl rfl Try.underlying22 (sz := 1) (by kernel_rfl) hy.some (by omega)) rfl rfl ?_
      refine mw_q rfl rfl (q_load rfl Try.underlying3 rfl (hy'.get (by omega))) rfl rfl ?_
      refine mw_q rfl rfl (q_neq rfl rfl) rfl rfl ?_
      refine mw_nil ?_
      refine rw_nil ?_
      refine pt_then ?_
      refine ct_if rfl (fun c25 => ?_) (fun c25 => ?_)
      · skip
        refine ct_seq ?_
        refine ct_region ?_
        refine sw_q rfl (q_assign rfl) rfl rfl ?_
        refine sw_nil ?_
        refine pt_then ?_
        refine ct_ret ?_
        refine pt_block_ret ?_
        refine pt_then_ret ?_
        refine pt_then_ret ?_
        refine pt_block_ret ?_
        refine pt_then_ret ?_
        exact pt_res (res_1 rfl rfl) (fun _ h => ⟨ret_b (by symm; apply decide_eq_false; exact (take_eq_step hk0 (by omega) (by omega) hI).1 c25), h⟩)
      · skip
        refine ct_skip ?_
        refine pt_block_normal ?_
        refine pt_then ?_
        refine ct_region ?_
        refine sw_q rfl (q_move rfl) rfl rfl ?_
        refine sw_q rfl (q_add rfl rfl (by omega)) rfl rfl ?_
        refine sw_q rfl (q_assign rfl) rfl rfl ?_
        refine sw_nil ?_
        exact pt_round (k + 1) ⟨by omega, by omega, ((take_eq_step hk0 (by omega) (by omega) hI).2 (by simpa using c25))⟩ (by omega) ⟨rfl, rfl, rfl, trivial⟩ (fun _ h => h)
    · skip
      refine ct_exit ?_
      refine pt_then_exit ?_
      refine pt_then_exit ?_
      refine pt_block_hit ?_
      refine pt_then ?_
      refine ct_seq ?_
      refine ct_region ?_
      refine sw_q rfl (q_assign rfl) rfl rfl ?_
      refine sw_nil ?_
      refine pt_then ?_
      refine ct_ret ?_
      exact pt_res (res_1 rfl rfl) (fun _ h => ⟨ret_b (by symm; apply decide_eq_true; apply hI.1; rw [drop_end (by omega), drop_end (by omega)]), h⟩)

set_option maxRecDepth 100000 in
theorem f_ref57_Quantile (C : World → Prop) (hC : Cl C) (A : Option Addr) (n c : Nat) (xs : List Int) (m o : Int) (hl : n ≤ 1048576) (hs : SlI C A n xs) : ∀ w, C w → Calls Try.prog 6 #[.slice A n c, .int .i64 m, .int .i64 o] w (fun en w' => en = .returned (.tuple #[.int .i64 (quantR xs m o).1, .int .i64 (quantR xs m o).2]) ∧ Ext w w') := by
  intro w hw
  have hC' : Cl (fun w' => C w' ∧ Ext w w') := fun _ _ h hx => ⟨hC _ _ h.1 hx, h.2.trans hx⟩
  have hs' : SlI (fun w' => C w' ∧ Ext w w') A n xs := hs.mono fun _ h => h.1
  have hlen := hs.len
  refine calls_p (N := 86) (args := [.slice A n c, .int .i64 m, .int .i64 o]) hC hw Try.func6 rfl Try.ntmps6 rfl ?_
  refine ct_seq ?_
  refine ct_region ?_
  refine sw_q rfl (q_assign rfl) rfl rfl ?_
  refine sw_q rfl (q_assign rfl) rfl rfl ?_
  refine sw_nil ?_
  refine pt_then ?_
  refine ct_seq ?_
  refine ct_test 27 (o < 1 ∨ 1048576 < o ∨ m < 0 ∨ o < m) ?_ ?_
  · skip
    refine ct_region ?_
    refine sw_q rfl (q_move rfl) rfl rfl ?_
    refine sw_q rfl (q_lss rfl rfl) rfl rfl ?_
    refine sw_qd rfl (q_move rfl) rfl rfl (fun h15 => ?_) (fun h15 => ?_)
    · skip
      refine sw_skip rfl rfl rfl ?_
      refine sw_skip rfl rfl rfl ?_
      refine sw_q rfl (q_pick_t rfl rfl) rfl rfl ?_
      refine sw_q rfl (q_move rfl) rfl rfl ?_
      refine sw_skip rfl rfl rfl ?_
      refine sw_skip rfl rfl rfl ?_
      refine sw_q rfl (q_pick_t rfl rfl) rfl rfl ?_
      refine sw_q rfl (q_move rfl) rfl rfl ?_
      refine sw_skip rfl rfl rfl ?_
      refine sw_skip rfl rfl rfl ?_
      refine sw_skip rfl rfl rfl ?_
      refine sw_q rfl (q_pick_t rfl rfl) rfl rfl ?_
      refine sw_nil ?_
      exact pt_test 15 true rfl rfl rfl (decide_eq_true (by omega))
    · skip
      refine sw_q rfl (q_move rfl) rfl rfl ?_
      refine sw_q rfl (q_gtr rfl rfl) rfl rfl ?_
      refine sw_q rfl (q_pick_f rfl rfl) rfl rfl ?_
      refine sw_qd rfl (q_move rfl) rfl rfl (fun h19 => ?_) (fun h19 => ?_)
      · skip
        refine sw_skip rfl rfl rfl ?_
        refine sw_skip rfl rfl rfl ?_
        refine sw_q rfl (q_pick_t rfl rfl) rfl rfl ?_
        refine sw_q rfl (q_move rfl) rfl rfl ?_
        refine sw_skip rfl rfl rfl ?_
        refine sw_skip rfl rfl rfl ?_
        refine sw_skip rfl rfl rfl ?_
        refine sw_q rfl (q_pick_t rfl rfl) rfl rfl ?_
        refine sw_nil ?_
        exact pt_test 15 true rfl rfl rfl (decide_eq_true (by omega))
      · skip
        refine sw_q rfl (q_move rfl) rfl rfl ?_
        refine sw_q rfl (q_lss rfl rfl) rfl rfl ?_
        refine sw_q rfl (q_pick_f rfl rfl) rfl rfl ?_
        refine sw_qd rfl (q_move rfl) rfl rfl (fun h23 => ?_) (fun h23 => ?_)
        · skip
          refine sw_skip rfl rfl rfl ?_
          refine sw_skip rfl rfl rfl ?_
          refine sw_skip rfl rfl rfl ?_
          refine sw_q rfl (q_pick_t rfl rfl) rfl rfl ?_
          refine sw_nil ?_
          exact pt_test 15 true rfl rfl rfl (decide_eq_true (by omega))
        · skip
          refine sw_q rfl (q_move rfl) rfl rfl ?_
          refine sw_q rfl (q_move rfl) rfl rfl ?_
          refine sw_q rfl (q_gtr rfl rfl) rfl rfl ?_
          refine sw_qd rfl (q_pick_f rfl rfl) rfl rfl (fun h27 => ?_) (fun h27 => ?_)
          · skip
            refine sw_nil ?_
            exact pt_test 15 true rfl rfl rfl (decide_eq_true (by omega))
          · skip
            refine sw_nil ?_
            exact pt_test 15 false rfl rfl rfl (decide_eq_false (by omega))
  · skip
    refine ct_if rfl (fun c27 => ?_) (fun c27 => ?_)
    · skip
      refine ct_seq ?_
      refine ct_region ?_
      refine sw_q rfl (q_assign rfl) rfl rfl ?_
      refine sw_q rfl (q_assign rfl) rfl rfl ?_
      refine sw_nil ?_
      refine pt_then ?_
      refine ct_ret ?_
      refine pt_then_ret ?_
      exact pt_res (res_2 rfl rfl rfl) (fun _ h => ⟨by rw [quantR, if_pos c27], h⟩)
    · skip
      refine ct_skip ?_
      refine pt_then ?_
      refine ct_seq ?_
      refine ct_seq ?_
      refine ct_region ?_
      refine sw_q rfl (q_move rfl) rfl rfl ?_
      refine sw_q rfl (q_len_slice rfl Try.underlying22) rfl rfl ?_
      refine sw_q rfl (q_eql rfl rfl) rfl rfl ?_
      refine sw_nil ?_
      refine pt_then ?_
      refine ct_if rfl (fun c30 => ?_) (fun c30 => ?_)
      · skip
        refine ct_seq ?_
        refine ct_region ?_
        refine sw_q rfl (q_assign rfl) rfl rfl ?_
        refine sw_q rfl (q_assign rfl) rfl rfl ?_
        refine sw_nil ?_
        refine pt_then ?_
        refine ct_ret ?_
        refine pt_then_ret ?_
        exact pt_res (res_2 rfl rfl rfl) (fun _ h => ⟨by rw [quantR, if_neg c27, if_pos (List.length_eq_zero_iff.1 (by omega))], h⟩)
      · skip
        refine ct_skip ?_
        refine pt_then ?_
        refine ct_seq ?_
        refine ct_region ?_
        refine sw_q rfl (q_move rfl) rfl rfl ?_
        refine sw_q rfl (q_move rfl) rfl rfl ?_
        refine sw_q rfl (q_len_slice rfl Try.underlying22) rfl rfl ?_
        refine sw_q rfl (q_sub rfl rfl (by omega)) rfl rfl ?_
        have hm1 : 0 ≤ m * ((n : Int) - 1) := Int.mul_nonneg (by omega) (by omega); have hm2 : m * ((n : Int) - 1) ≤ 1048576 * 1048576 := Int.mul_le_mul (by omega) (by omega) (by omega) (by omega)
        refine sw_q rfl (q_mul rfl rfl (by omega)) rfl rfl ?_
        refine sw_q rfl (q_move rfl) rfl rfl ?_
        refine sw_q rfl (q_quo rfl rfl (by omega) (by omega) (by omega)) rfl rfl ?_
        refine sw_q rfl (q_assign rfl) rfl rfl ?_
        refine sw_nil ?_
        refine pt_then ?_
        refine ct_seq ?_
        refine ct_seq ?_
        refine ct_region ?_
        refine sw_q rfl (q_assign rfl) rfl rfl ?_
        refine sw_nil ?_
        refine pt_then ?_
        refine ct_block ?_
        refine ct_loop (fun i : Int => [(0, .slice A n c), (8, .int .i64 (m * ((n : Int) - 1) / o)), (9, .int .i64 i)]) (fun _ w' => C w' ∧ Ext w w') (fun i => 0 ≤ i ∧ i ≤ n ∧ refQ xs (m * ((n : Int) - 1) / o) (xs.drop i.toNat) = refQ xs (m * ((n : Int) - 1) / o) xs) (fun i => (n - i).toNat) 0 (fun _ => hC') ⟨by omega, by omega, by simp⟩ ⟨rfl, rfl, rfl, trivial⟩ (fun _ h => h) ?_
        rintro i ⟨hi0, hi1, hI⟩
        refine ct_seq ?_
        refine ct_seq ?_
        refine ct_region ?_
        refine sw_q rfl (q_move rfl) rfl rfl ?_
        refine sw_q rfl (q_move rfl) rfl rfl ?_
        refine sw_q rfl (q_len_slice rfl Try.underlying22) rfl rfl ?_
        refine sw_q rfl (q_lss rfl rfl) rfl rfl ?_
        refine sw_nil ?_
        refine pt_then ?_
        refine ct_if rfl (fun c41 => ?_) (fun c41 => ?_)
        · skip
          refine ct_skip ?_
          refine pt_then ?_
          refine ct_seq ?_
          refine ct_block ?_
          refine ct_seq ?_
          refine ct_region ?_
          refine sw_q rfl (q_assign rfl) rfl rfl ?_
          refine sw_q rfl (q_assign rfl) rfl rfl ?_
          refine sw_nil ?_
          refine pt_then ?_
          refine ct_seq ?_
          refine ct_seq ?_
          refine ct_region ?_
          refine sw_q rfl (q_assign rfl) rfl rfl ?_
          refine sw_nil ?_
          refine pt_then ?_
          refine ct_block ?_
          refine ct_loop (fun x_ : Int × Int × Int => match x_ with | (k, less, alike) => [(0, .slice A n c), (8, .int .i64 (m * ((n : Int) - 1) / o)), (9, .int .i64 i), (10, .int .i64 less), (11, .int .i64 alike), (12, .int .i64 k)]) (fun _ w' => C w' ∧ Ext w w') (fun x_ : Int × Int × Int => match x_ with | (k, less, alike) => (0 ≤ k) ∧ (k ≤ n) ∧ (0 ≤ less) ∧ (0 ≤ alike) ∧ (lessN (xs.getD i.toNat 0) xs = less + lessN (xs.getD i.toNat 0) (xs.drop k.toNat)) ∧ (alikeN (xs.getD i.toNat 0) xs = alike + alikeN (xs.getD i.toNat 0) (xs.drop k.toNat))) (fun x_ : Int × Int × Int => match x_ with | (k, less, alike) => (n - k).toNat) (0, 0, 0) (fun _ => hC') ⟨by omega, by omega, by omega, by omega, by simp, by simp⟩ ⟨rfl, rfl, rfl, rfl, rfl, rfl, trivial⟩ (fun _ h => h) ?_
          rintro ⟨k, less, alike⟩ ⟨hk0, hk1, hle0, hal0, h1, h2⟩; have hb1 := lessN_bd (xs.getD i.toNat 0) xs; have hb2 := alikeN_bd (xs.getD i.toNat 0) xs; have hb3 := lessN_bd (xs.getD i.toNat 0) (xs.drop k.toNat); have hb4 := alikeN_bd (xs.getD i.toNat 0) (xs.drop k.toNat); show CT _ _ [(0, .slice A n c), (8, .int .i64 (m * ((n : Int) - 1) / o)), (9, .int .i64 i), (10, .int .i64 less), (11, .int .i64 alike), (12, .int .i64 k)] _ _ _
          refine ct_seq ?_
          refine ct_seq ?_
          refine ct_region ?_
          refine sw_q rfl (q_move rfl) rfl rfl ?_
          refine sw_q rfl (q_move rfl) rfl rfl ?_
          refine sw_q rfl (q_len_slice rfl Try.underlying22) rfl rfl ?_
          refine sw_q rfl (q_lss rfl rfl) rfl rfl ?_
          refine sw_nil ?_
          refine pt_then ?_
          refine ct_if rfl (fun c47 => ?_) (fun c47 => ?_)
          · skip
            refine ct_skip ?_
            refine pt_then ?_
            refine ct_seq ?_
            refine ct_block ?_
            refine ct_seq ?_
            refine ct_seq ?_
            refine ct_draw [0, 0, 3, 7, 0, 0, 48, 112, 255] [0, 1, 2, 3, 4, 5, 6, 7, 8] [] (by kernel_rfl) (by kernel_rfl) ?_
            refine mw_q rfl rfl (q_move rfl) rfl rfl ?_
            refine mw_q rfl rfl (q_move rfl) rfl rfl ?_
            refine mw_q rfl rfl (q_idx rfl rfl Try.underlying22 (sz := 1) (by kernel_rfl) hs.some (by omega)) rfl rfl ?_
            refine mw_q rfl rfl (q_load rfl Try.underlying3 rfl (hs'.get (by omega))) rfl rfl ?_
            refine mw_q rfl rfl (q_move rfl) rfl rfl ?_
            refine mw_q rfl rfl (q_move rfl) rfl rfl ?_
            refine mw_q rfl rfl (q_idx rfl rfl Try.underlying22 (sz := 1) (by kernel_rfl) hs.some (by omega)) rfl rfl ?_
            refine mw_q rfl rfl (q_load rfl Try.underlying3 rfl (hs'.get (by omega))) rfl rfl ?_
            refine mw_q rfl rfl (q_lss rfl rfl) rfl rfl ?_
            refine mw_nil ?_
            refine rw_nil ?_
            refine pt_then ?_
            refine ct_if rfl (fun c58 => ?_) (fun c58 => ?_)
            · skip
              refine ct_region ?_
              refine sw_q rfl (q_move rfl) rfl rfl ?_
              refine sw_q rfl (q_add rfl rfl (by omega)) rfl rfl ?_
              refine sw_q rfl (q_assign rfl) rfl rfl ?_
              refine sw_nil ?_
              refine pt_then ?_
              refine ct_seq ?_
              refine ct_draw [0, 0, 3, 7, 0, 0, 48, 112, 255] [0, 1, 2, 3, 4, 5, 6, 7, 8] [] (by kernel_rfl) (by kernel_rfl) ?_
              refine mw_q rfl rfl (q_move rfl) rfl rfl ?_
              refine mw_q rfl rfl (q_move rfl) rfl rfl ?_
              refine mw_q rfl rfl (q_idx rfl rfl Try.underlying22 (sz := 1) (by kernel_rfl) hs.some (by omega)) rfl rfl ?_
              refine mw_q rfl rfl (q_load rfl Try.underlying3 rfl (hs'.get (by omega))) rfl rfl ?_
              refine mw_q rfl rfl (q_move rfl) rfl rfl ?_
              refine mw_q rfl rfl (q_move rfl) rfl rfl ?_
              refine mw_q rfl rfl (q_idx rfl rfl Try.underlying22 (sz := 1) (by kernel_rfl) hs.some (by omega)) rfl rfl ?_
              refine mw_q rfl rfl (q_load rfl Try.underlying3 rfl (hs'.get (by omega))) rfl rfl ?_
              refine mw_q rfl rfl (q_eql rfl rfl) rfl rfl ?_
              refine mw_nil ?_
              refine rw_nil ?_
              refine pt_then ?_
              refine ct_if rfl (fun c69 => ?_) (fun c69 => ?_)
              · skip
                refine ct_region ?_
                refine sw_q rfl (q_move rfl) rfl rfl ?_
                refine sw_q rfl (q_add rfl rfl (by omega)) rfl rfl ?_
                refine sw_q rfl (q_assign rfl) rfl rfl ?_
                refine sw_nil ?_
                refine pt_block_normal ?_
                refine pt_then ?_
                refine ct_region ?_
                refine sw_q rfl (q_move rfl) rfl rfl ?_
                refine sw_q rfl (q_add rfl rfl (by omega)) rfl rfl ?_
                refine sw_q rfl (q_assign rfl) rfl rfl ?_
                refine sw_nil ?_
                exact pt_round (x := (k, less, alike)) ((k + 1), (less + 1), (alike + 1)) (by show (0 ≤ k + 1) ∧ (k + 1 ≤ (n : Int)) ∧ (0 ≤ (less + 1)) ∧ (0 ≤ (alike + 1)) ∧ (lessN (xs.getD i.toNat 0) xs = (less + 1) + lessN (xs.getD i.toNat 0) (xs.drop (k + 1).toNat)) ∧ (alikeN (xs.getD i.toNat 0) xs = (alike + 1) + alikeN (xs.getD i.toNat 0) (xs.drop (k + 1).toNat)); rw [getD_drop hk0 (by omega)] at h1 h2; simp only [lessN, alikeN] at h1 h2; (repeat' split at h1) <;> (repeat' split at h2) <;> first | exact ⟨by omega, by omega, by omega, by omega, by omega, by omega⟩ | (exfalso; omega)) (by show ((n : Int) - (k + 1)).toNat < ((n : Int) - k).toNat; omega) ⟨rfl, rfl, rfl, rfl, rfl, rfl, trivial⟩ (fun _ h => h)
              · skip
                refine ct_skip ?_
                refine pt_block_normal ?_
                refine pt_then ?_
                refine ct_region ?_
                refine sw_q rfl (q_move rfl) rfl rfl ?_
                refine sw_q rfl (q_add rfl rfl (by omega)) rfl rfl ?_
                refine sw_q rfl (q_assign rfl) rfl rfl ?_
                refine sw_nil ?_
                exact pt_round (x := (k, less, alike)) ((k + 1), (less + 1), (alike)) (by show (0 ≤ k + 1) ∧ (k + 1 ≤ (n : Int)) ∧ (0 ≤ (less + 1)) ∧ (0 ≤ (alike)) ∧ (lessN (xs.getD i.toNat 0) xs = (less + 1) + lessN (xs.getD i.toNat 0) (xs.drop (k + 1).toNat)) ∧ (alikeN (xs.getD i.toNat 0) xs = (alike) + alikeN (xs.getD i.toNat 0) (xs.drop (k + 1).toNat)); rw [getD_drop hk0 (by omega)] at h1 h2; simp only [lessN, alikeN] at h1 h2; (repeat' split at h1) <;> (repeat' split at h2) <;> first | exact ⟨by omega, by omega, by omega, by omega, by omega, by omega⟩ | (exfalso; omega)) (by show ((n : Int) - (k + 1)).toNat < ((n : Int) - k).toNat; omega) ⟨rfl, rfl, rfl, rfl, rfl, rfl, trivial⟩ (fun _ h => h)
            · skip
              refine ct_skip ?_
              refine pt_then ?_
              refine ct_seq ?_
              refine ct_draw [0, 0, 3, 7, 0, 0, 48, 112, 255] [0, 1, 2, 3, 4, 5, 6, 7, 8] [] (by kernel_rfl) (by kernel_rfl) ?_
              refine mw_q rfl rfl (q_move rfl) rfl rfl ?_
              refine mw_q rfl rfl (q_move rfl) rfl rfl ?_
              refine mw_q rfl rfl (q_idx rfl rfl Try.underlying22 (sz := 1) (by kernel_rfl) hs.some (by omega)) rfl rfl ?_
              refine mw_q rfl rfl (q_load rfl Try.underlying3 rfl (hs'.get (by omega))) rfl rfl ?_
              refine mw_q rfl rfl (q_move rfl) rfl rfl ?_
              refine mw_q rfl rfl (q_move rfl) rfl rfl ?_
              refine mw_q rfl rfl (q_idx rfl rfl Try.underlying22 (sz := 1) (by kernel_rfl) hs.some (by omega)) rfl rfl ?_
              refine mw_q rfl rfl (q_load rfl Try.underlying3 rfl (hs'.get (by omega))) rfl rfl ?_
              refine mw_q rfl rfl (q_eql rfl rfl) rfl rfl ?_
              refine mw_nil ?_
              refine rw_nil ?_
              refine pt_then ?_
              refine ct_if rfl (fun c69 => ?_) (fun c69 => ?_)
              · skip
                refine ct_region ?_
                refine sw_q rfl (q_move rfl) rfl rfl ?_
                refine sw_q rfl (q_add rfl rfl (by omega)) rfl rfl ?_
                refine sw_q rfl (q_assign rfl) rfl rfl ?_
                refine sw_nil ?_
                refine pt_block_normal ?_
                refine pt_then ?_
                refine ct_region ?_
                refine sw_q rfl (q_move rfl) rfl rfl ?_
                refine sw_q rfl (q_add rfl rfl (by omega)) rfl rfl ?_
                refine sw_q rfl (q_assign rfl) rfl rfl ?_
                refine sw_nil ?_
                exact pt_round (x := (k, less, alike)) ((k + 1), (less), (alike + 1)) (by show (0 ≤ k + 1) ∧ (k + 1 ≤ (n : Int)) ∧ (0 ≤ (less)) ∧ (0 ≤ (alike + 1)) ∧ (lessN (xs.getD i.toNat 0) xs = (less) + lessN (xs.getD i.toNat 0) (xs.drop (k + 1).toNat)) ∧ (alikeN (xs.getD i.toNat 0) xs = (alike + 1) + alikeN (xs.getD i.toNat 0) (xs.drop (k + 1).toNat)); rw [getD_drop hk0 (by omega)] at h1 h2; simp only [lessN, alikeN] at h1 h2; (repeat' split at h1) <;> (repeat' split at h2) <;> first | exact ⟨by omega, by omega, by omega, by omega, by omega, by omega⟩ | (exfalso; omega)) (by show ((n : Int) - (k + 1)).toNat < ((n : Int) - k).toNat; omega) ⟨rfl, rfl, rfl, rfl, rfl, rfl, trivial⟩ (fun _ h => h)
              · skip
                refine ct_skip ?_
                refine pt_block_normal ?_
                refine pt_then ?_
                refine ct_region ?_
                refine sw_q rfl (q_move rfl) rfl rfl ?_
                refine sw_q rfl (q_add rfl rfl (by omega)) rfl rfl ?_
                refine sw_q rfl (q_assign rfl) rfl rfl ?_
                refine sw_nil ?_
                exact pt_round (x := (k, less, alike)) ((k + 1), (less), (alike)) (by show (0 ≤ k + 1) ∧ (k + 1 ≤ (n : Int)) ∧ (0 ≤ (less)) ∧ (0 ≤ (alike)) ∧ (lessN (xs.getD i.toNat 0) xs = (less) + lessN (xs.getD i.toNat 0) (xs.drop (k + 1).toNat)) ∧ (alikeN (xs.getD i.toNat 0) xs = (alike) + alikeN (xs.getD i.toNat 0) (xs.drop (k + 1).toNat)); rw [getD_drop hk0 (by omega)] at h1 h2; simp only [lessN, alikeN] at h1 h2; (repeat' split at h1) <;> (repeat' split at h2) <;> first | exact ⟨by omega, by omega, by omega, by omega, by omega, by omega⟩ | (exfalso; omega)) (by show ((n : Int) - (k + 1)).toNat < ((n : Int) - k).toNat; omega) ⟨rfl, rfl, rfl, rfl, rfl, rfl, trivial⟩ (fun _ h => h)
          · skip
            refine ct_exit ?_
            refine pt_then_exit ?_
            refine pt_then_exit ?_
            refine pt_block_hit ?_
            refine pt_then ?_
            refine ct_seq ?_
            refine ct_region ?_
            refine sw_q rfl (q_move rfl) rfl rfl ?_
            refine sw_q rfl (q_move rfl) rfl rfl ?_
            refine sw_q rfl (q_geq rfl rfl) rfl rfl ?_
            refine sw_qd rfl (q_move rfl) rfl rfl (fun h75 => ?_) (fun h75 => ?_)
            · skip
              refine sw_q rfl (q_move rfl) rfl rfl ?_
              refine sw_q rfl (q_move rfl) rfl rfl ?_
              refine sw_q rfl (q_move rfl) rfl rfl ?_
              refine sw_q rfl (q_add rfl rfl (by omega)) rfl rfl ?_
              refine sw_q rfl (q_lss rfl rfl) rfl rfl ?_
              refine sw_q rfl (q_pick_t rfl rfl) rfl rfl ?_
              refine sw_nil ?_
              refine pt_then ?_
              refine ct_if rfl (fun c81 => ?_) (fun c81 => ?_)
              · skip
                refine ct_seq ?_
                refine ct_region ?_
                refine sw_q rfl (q_move rfl) rfl rfl ?_
                refine sw_q rfl (q_move rfl) rfl rfl ?_
                refine sw_q rfl (q_idx rfl rfl Try.underlying22 (sz := 1) (by kernel_rfl) hs.some (by omega)) rfl rfl ?_
                refine sw_q rfl (q_load rfl Try.underlying3 rfl (hs'.get (by omega))) rfl rfl ?_
                refine sw_q rfl (q_assign rfl) rfl rfl ?_
                refine sw_q rfl (q_assign rfl) rfl rfl ?_
                refine sw_nil ?_
                refine pt_then ?_
                refine ct_ret ?_
                refine pt_block_ret ?_
                refine pt_then_ret ?_
                refine pt_then_ret ?_
                refine pt_block_ret ?_
                refine pt_then_ret ?_
                exact pt_res (res_2 rfl rfl rfl) (fun _ h => ⟨by rw [quantR, if_neg c27, if_neg (by intro h; subst h; simp at hlen; omega), hlen, ← hI, getD_drop hi0 (by omega), refQ, if_pos (by rw [h1, h2, drop_end (by omega)]; simp only [lessN, alikeN]; omega)], h⟩)
              · skip
                refine ct_skip ?_
                refine pt_block_normal ?_
                refine pt_then ?_
                refine ct_region ?_
                refine sw_q rfl (q_move rfl) rfl rfl ?_
                refine sw_q rfl (q_add rfl rfl (by omega)) rfl rfl ?_
                refine sw_q rfl (q_assign rfl) rfl rfl ?_
                refine sw_nil ?_
                exact pt_round (i + 1) ⟨by omega, by omega, by rw [getD_drop hi0 (by omega), refQ, if_neg (by rw [h1, h2, drop_end (by omega)]; simp only [lessN, alikeN]; omega)] at hI; exact hI⟩ (by omega) ⟨rfl, rfl, rfl, trivial⟩ (fun _ h => h)
            · skip
              refine sw_skip rfl rfl rfl ?_
              refine sw_skip rfl rfl rfl ?_
              refine sw_skip rfl rfl rfl ?_
              refine sw_skip rfl rfl rfl ?_
              refine sw_skip rfl rfl rfl ?_
              refine sw_q rfl (q_pick_f rfl rfl) rfl rfl ?_
              refine sw_nil ?_
              refine pt_then ?_
              refine ct_f rfl ?_
              refine ct_skip ?_
              refine pt_block_normal ?_
              refine pt_then ?_
              refine ct_region ?_
              refine sw_q rfl (q_move rfl) rfl rfl ?_
              refine sw_q rfl (q_add rfl rfl (by omega)) rfl rfl ?_
              refine sw_q rfl (q_assign rfl) rfl rfl ?_
              refine sw_nil ?_
              exact pt_round (i + 1) ⟨by omega, by omega, by rw [getD_drop hi0 (by omega), refQ, if_neg (by rw [h1, h2, drop_end (by omega)]; simp only [lessN, alikeN]; omega)] at hI; exact hI⟩ (by omega) ⟨rfl, rfl, rfl, trivial⟩ (fun _ h => h)
        · skip
          refine ct_exit ?_
          refine pt_then_exit ?_
          refine pt_then_exit ?_
          refine pt_block_hit ?_
          refine pt_then ?_
          refine ct_seq ?_
          refine ct_region ?_
          refine sw_q rfl (q_assign rfl) rfl rfl ?_
          refine sw_q rfl (q_assign rfl) rfl rfl ?_
          refine sw_nil ?_
          refine pt_then ?_
          refine ct_ret ?_
          exact pt_res (res_2 rfl rfl rfl) (fun _ h => ⟨by rw [quantR, if_neg c27, if_neg (by intro h; subst h; simp at hlen; omega), hlen, ← hI, drop_end (by omega), refQ], h⟩)

set_option maxRecDepth 100000 in
theorem f_Values {B : Base} {l : List (Nat × Obj)} (A : Option Addr) (n c : Nat) (w : World) (hw : HS B l w) : Calls Try.prog 11 #[.slice A n c] w (fun en w' => ∃ v, en = .returned v ∧ ∃ b : Nat, v = .func (.func 16) #[] #[.pointer (some ⟨b, 0, none⟩)] ∧ True ∧ HS B ((b, .cells (Value.slice A n c).cells 22 (0, 0)) :: l) w') := by
  refine calls_ct (N := 4) (args := [.slice A n c]) (C := HS B l) Try.func11 rfl Try.ntmps11 rfl HS.cl hw ?_
  refine ct_seq ?_
  refine ct_region ?_
  refine sw_e rfl (e_box rfl) rfl rfl (fun _ => HS.cl) (fun b1 _ => ?_)
  refine sw_q rfl (q_assign rfl) rfl rfl ?_
  refine sw_nil ?_
  refine pt_then ?_
  refine ct_seq ?_
  refine ct_region ?_
  refine sw_q rfl (q_makeFunc (caps := [.tmp 1]) rfl) rfl rfl ?_
  refine sw_q rfl (q_assign rfl) rfl rfl ?_
  refine sw_nil ?_
  refine pt_then ?_
  refine ct_ret ?_
  exact pt_res (res_1 rfl rfl) (fun _ h => ⟨_, rfl, b1, rfl, trivial, h⟩)

set_option maxRecDepth 100000 in
theorem f_Sorted {B : Base} {l : List (Nat × Obj)} {A : Option Addr} {cap bs : Nat} {T : TypeId} {xs : List Int} (hlen : xs.length ≤ 1099511627776) (hb : (bs, .cells (Value.slice A xs.length cap).cells T (0, 0)) ∈ l) (hs : SlI (HS B l) A xs.length xs) (w : World) (hw : HS B l w) : Calls Try.prog 10 #[.func (.func 16) #[] #[.pointer (some ⟨bs, 0, none⟩)]] w (fun en w' => ∃ v, en = .returned v ∧ ∃ q : Option Addr × Nat × List (Nat × Obj), v = .slice q.1 xs.length q.2.1 ∧ Vec 3 1 q.1 xs.length q.2.1 (iv (sortF xs)) q.2.2 ∧ HS B (q.2.2 ++ l) w') := by
  refine calls_ct (N := 9) (args := [.func (.func 16) #[] #[.pointer (some ⟨bs, 0, none⟩)]]) (C := HS B l) Try.func10 rfl Try.ntmps10 rfl HS.cl hw ?_
  refine ct_seq ?_
  refine ct_region ?_
  refine sw_q rfl (q_assign rfl) rfl rfl ?_
  refine sw_nil ?_
  refine pt_then ?_
  refine ct_seq ?_
  refine ct_region ?_
  refine sw_q rfl (q_move rfl) rfl rfl ?_
  refine sw_e rfl (e_call rfl (by kernel_rfl) (fun w hw => f_Collect hlen hb hs w hw)) rfl rfl (fun _ => HS.cl) (fun ⟨A1, c1, q1⟩ hV1 => ?_)
  refine sw_q rfl (q_assign rfl) rfl rfl ?_
  refine sw_nil ?_
  refine pt_then ?_
  refine ct_seq ?_
  refine ct_region ?_
  refine sw_q rfl (q_move rfl) rfl rfl ?_
  refine sw_e rfl (e_call rfl (by kernel_rfl) (fun w hw => f_Sort hV1 hlen w hw)) rfl rfl (fun _ => HS.cl) (fun q2 hV2 => ?_)
  refine sw_nil ?_
  refine pt_then ?_
  refine ct_seq ?_
  refine ct_region ?_
  refine sw_q rfl (q_move rfl) rfl rfl ?_
  refine sw_q rfl (q_assign rfl) rfl rfl ?_
  refine sw_nil ?_
  refine pt_then ?_
  refine ct_ret ?_
  exact pt_res (res_1 rfl rfl) (fun _ h => ⟨_, rfl, (A1, c1, q2), rfl, hV2, h⟩)

set_option maxRecDepth 100000 in
theorem f_Quantile (C : World → Prop) (hC : Cl C) (A : Option Addr) (c : Nat) (xs : List Int) (m o : Int) (hl : xs.length ≤ 1048576) (hs : SlI C A xs.length xs) : ∀ w, C w → Calls Try.prog 5 #[.slice A xs.length c, .int .i64 m, .int .i64 o] w (fun en w' => en = .returned (.tuple #[.int .i64 (quantF xs m o).1, .int .i64 (quantF xs m o).2]) ∧ Ext w w') := by
  intro w hw
  refine calls_q (N := 40) (args := [.slice A xs.length c, .int .i64 m, .int .i64 o]) Try.func5 rfl Try.ntmps5 rfl (fun B hB => ?_)
  refine ct_seq ?_
  refine ct_region ?_
  refine sw_q rfl (q_assign rfl) rfl rfl ?_
  refine sw_q rfl (q_assign rfl) rfl rfl ?_
  refine sw_nil ?_
  refine pt_then ?_
  refine ct_seq ?_
  refine ct_block ?_
  refine ct_test 8 (o < 1 ∨ 1048576 < o ∨ m < 0 ∨ o < m) ?_ ?_
  · skip
    refine ct_region ?_
    refine sw_q rfl (q_move rfl) rfl rfl ?_
    refine sw_q rfl (q_lss rfl rfl) rfl rfl ?_
    refine sw_qd rfl (q_move rfl) rfl rfl (fun h11 => ?_) (fun h11 => ?_)
    · skip
      refine sw_skip rfl rfl rfl ?_
      refine sw_skip rfl rfl rfl ?_
      refine sw_q rfl (q_pick_t rfl rfl) rfl rfl ?_
      refine sw_q rfl (q_move rfl) rfl rfl ?_
      refine sw_skip rfl rfl rfl ?_
      refine sw_skip rfl rfl rfl ?_
      refine sw_q rfl (q_pick_t rfl rfl) rfl rfl ?_
      refine sw_q rfl (q_move rfl) rfl rfl ?_
      refine sw_skip rfl rfl rfl ?_
      refine sw_skip rfl rfl rfl ?_
      refine sw_skip rfl rfl rfl ?_
      refine sw_q rfl (q_pick_t rfl rfl) rfl rfl ?_
      refine sw_q rfl (q_assign rfl) rfl rfl ?_
      refine sw_nil ?_
      exact pt_test 16 true rfl rfl rfl (decide_eq_true (by omega))
    · skip
      refine sw_q rfl (q_move rfl) rfl rfl ?_
      refine sw_q rfl (q_gtr rfl rfl) rfl rfl ?_
      refine sw_q rfl (q_pick_f rfl rfl) rfl rfl ?_
      refine sw_qd rfl (q_move rfl) rfl rfl (fun h15 => ?_) (fun h15 => ?_)
      · skip
        refine sw_skip rfl rfl rfl ?_
        refine sw_skip rfl rfl rfl ?_
        refine sw_q rfl (q_pick_t rfl rfl) rfl rfl ?_
        refine sw_q rfl (q_move rfl) rfl rfl ?_
        refine sw_skip rfl rfl rfl ?_
        refine sw_skip rfl rfl rfl ?_
        refine sw_skip rfl rfl rfl ?_
        refine sw_q rfl (q_pick_t rfl rfl) rfl rfl ?_
        refine sw_q rfl (q_assign rfl) rfl rfl ?_
        refine sw_nil ?_
        exact pt_test 16 true rfl rfl rfl (decide_eq_true (by omega))
      · skip
        refine sw_q rfl (q_move rfl) rfl rfl ?_
        refine sw_q rfl (q_lss rfl rfl) rfl rfl ?_
        refine sw_q rfl (q_pick_f rfl rfl) rfl rfl ?_
        refine sw_qd rfl (q_move rfl) rfl rfl (fun h19 => ?_) (fun h19 => ?_)
        · skip
          refine sw_skip rfl rfl rfl ?_
          refine sw_skip rfl rfl rfl ?_
          refine sw_skip rfl rfl rfl ?_
          refine sw_q rfl (q_pick_t rfl rfl) rfl rfl ?_
          refine sw_q rfl (q_assign rfl) rfl rfl ?_
          refine sw_nil ?_
          exact pt_test 16 true rfl rfl rfl (decide_eq_true (by omega))
        · skip
          refine sw_q rfl (q_move rfl) rfl rfl ?_
          refine sw_q rfl (q_move rfl) rfl rfl ?_
          refine sw_q rfl (q_gtr rfl rfl) rfl rfl ?_
          refine sw_q rfl (q_pick_f rfl rfl) rfl rfl ?_
          refine sw_qd rfl (q_assign rfl) rfl rfl (fun h8 => ?_) (fun h8 => ?_)
          · skip
            refine sw_nil ?_
            exact pt_test 16 true rfl rfl rfl (decide_eq_true (by omega))
          · skip
            refine sw_nil ?_
            exact pt_test 16 false rfl rfl rfl (decide_eq_false (by omega))
  · skip
    refine ct_if rfl (fun c8 => ?_) (fun c8 => ?_)
    · skip
      refine ct_seq ?_
      refine ct_region ?_
      refine sw_q rfl (q_assign rfl) rfl rfl ?_
      refine sw_q rfl (q_assign rfl) rfl rfl ?_
      refine sw_nil ?_
      refine pt_then ?_
      refine ct_ret ?_
      refine pt_block_ret ?_
      refine pt_then_ret ?_
      exact pt_res (res_2 rfl rfl rfl) (fun _ h => ⟨by rw [quantF, if_pos c8], _, h⟩)
    · skip
      refine ct_seq ?_
      refine ct_region ?_
      refine sw_q rfl (q_move rfl) rfl rfl ?_
      refine sw_q rfl (q_len_slice rfl Try.underlying22) rfl rfl ?_
      refine sw_q rfl (q_eql rfl rfl) rfl rfl ?_
      refine sw_q rfl (q_assign rfl) rfl rfl ?_
      refine sw_nil ?_
      refine pt_then ?_
      refine ct_if rfl (fun c24 => ?_) (fun c24 => ?_)
      · skip
        refine ct_seq ?_
        refine ct_region ?_
        refine sw_q rfl (q_assign rfl) rfl rfl ?_
        refine sw_q rfl (q_assign rfl) rfl rfl ?_
        refine sw_nil ?_
        refine pt_then ?_
        refine ct_ret ?_
        refine pt_block_ret ?_
        refine pt_then_ret ?_
        exact pt_res (res_2 rfl rfl rfl) (fun _ h => ⟨by rw [quantF, if_neg c8, if_pos (List.length_eq_zero_iff.1 (by omega))], _, h⟩)
      · skip
        refine ct_skip ?_
        refine pt_block_normal ?_
        refine pt_then ?_
        refine ct_seq ?_
        refine ct_draw [0, 1, 3, 0, 0, 16, 48, 120, 0, 504, 1023, 2047, 4095, 8191] [0, 3, 4, 5, 6, 7, 8, 9] [⟨1, false, []⟩, ⟨2, false, [10, 11, 12, 13]⟩] (by kernel_rfl) (by kernel_rfl) ?_
        refine mw_q rfl rfl (q_move rfl) rfl rfl ?_
        refine mw_q rfl rfl (q_move rfl) rfl rfl ?_
        refine mw_q rfl rfl (q_move rfl) rfl rfl ?_
        refine mw_q rfl rfl (q_len_slice rfl Try.underlying22) rfl rfl ?_
        have hq := quant_at (m := m) (n := (xs.length : Int)) (o := o) (by omega) (by omega) (by omega) (by omega); have hm1 : 0 ≤ m * ((xs.length : Int) - 1) := Int.mul_nonneg (by omega) (by omega); have hm2 : m * ((xs.length : Int) - 1) ≤ 1048576 * 1048576 := Int.mul_le_mul (by omega) (by omega) (by omega) (by omega)
        refine mw_q rfl rfl (q_sub rfl rfl (by omega)) rfl rfl ?_
        refine mw_q rfl rfl (q_mul rfl rfl (by omega)) rfl rfl ?_
        refine mw_q rfl rfl (q_move rfl) rfl rfl ?_
        refine mw_q rfl rfl (q_quo rfl rfl (by omega) (by omega) (by omega)) rfl rfl ?_
        refine mw_nil ?_
        refine rw_e rfl rfl (e_call rfl (by kernel_rfl) (fun w hw => f_Values A xs.length c w hw)) rfl rfl (fun _ => HS.cl) (Or.inr (fun _ _ h => HS.drop1 h)) (fun b29 _ => ?_)
        refine mw_nil ?_
        refine rw_e rfl rfl (e_call rfl (by kernel_rfl) (fun w hw3 => f_Sorted (by omega) (List.mem_cons_self ..) (hs.toHS hw hB _) w hw3)) rfl rfl (fun _ => HS.cl) (Or.inr (fun _ _ h => HS.drop h)) (fun ⟨A1, c1, q1⟩ hV1 => ?_)
        refine mw_q rfl rfl (q_idx rfl rfl Try.underlying22 (sz := 1) (by kernel_rfl) (Vec.sli (B := B) (l := []) hV1).some (by omega)) rfl rfl ?_
        refine mw_q rfl rfl (q_load rfl Try.underlying3 rfl ((Vec.sli hV1).get (by omega))) rfl rfl ?_
        refine mw_q rfl rfl (q_assign rfl) rfl rfl ?_
        refine mw_q rfl rfl (q_assign rfl) rfl rfl ?_
        refine mw_nil ?_
        refine rw_nil ?_
        refine pt_then ?_
        refine ct_ret ?_
        exact pt_res (res_2 rfl rfl rfl) (fun _ h => ⟨by rw [quantF, if_neg c8, if_neg (by intro h; subst h; simp at c24)], _, h⟩)

set_option maxRecDepth 100000 in
theorem f_Buckets {B : Base} {l : List (Nat × Obj)} {A : Option Addr} {cap : Nat} {xs : List Int} (hlen : xs.length ≤ 1099511627776) (hx : ∀ x ∈ xs, x ≤ 9223372036854775807) (hs : SlI (HS B l) A xs.length xs) (w : World) (hw : HS B l w) : Calls Try.prog 8 #[.slice A xs.length cap] w (fun en w' => ∃ v, en = .returned v ∧ ∃ q : Option Addr × Nat × Nat × List (Nat × Obj), v = .slice q.1 q.2.1 q.2.2.1 ∧ SlI (HS B (q.2.2.2 ++ l)) q.1 q.2.1 (bucketsF xs) ∧ HS B (q.2.2.2 ++ l) w') := by
  refine calls_ct (N := 31) (args := [.slice A xs.length cap]) (C := HS B l) Try.func8 rfl Try.ntmps8 rfl HS.cl hw ?_
  refine ct_seq ?_
  refine ct_region ?_
  refine sw_q rfl (q_assign rfl) rfl rfl ?_
  refine sw_nil ?_
  refine pt_then ?_
  refine ct_seq ?_
  refine ct_region ?_
  refine sw_e rfl (e_alloc (z := .agg #[.int .i64 0, .int .i64 0, .int .i64 0, .int .i64 0, .int .i64 0, .int .i64 0, .int .i64 0, .int .i64 0, .int .i64 0, .int .i64 0, .int .i64 0, .int .i64 0, .int .i64 0, .int .i64 0, .int .i64 0, .int .i64 0, .int .i64 0, .int .i64 0, .int .i64 0, .int .i64 0, .int .i64 0, .int .i64 0, .int .i64 0, .int .i64 0, .int .i64 0, .int .i64 0, .int .i64 0, .int .i64 0, .int .i64 0, .int .i64 0, .int .i64 0, .int .i64 0, .int .i64 0, .int .i64 0, .int .i64 0, .int .i64 0, .int .i64 0, .int .i64 0, .int .i64 0, .int .i64 0, .int .i64 0, .int .i64 0, .int .i64 0, .int .i64 0, .int .i64 0, .int .i64 0, .int .i64 0, .int .i64 0, .int .i64 0, .int .i64 0, .int .i64 0, .int .i64 0, .int .i64 0, .int .i64 0, .int .i64 0, .int .i64 0, .int .i64 0, .int .i64 0, .int .i64 0, .int .i64 0, .int .i64 0, .int .i64 0, .int .i64 0, .int .i64 0]) (by kernel_rfl)) rfl rfl (fun _ => HS.cl) (fun b3 _ => ?_)
  refine sw_nil ?_
  refine pt_then ?_
  refine ct_seq ?_
  refine ct_region ?_
  refine sw_q rfl (q_assign rfl) rfl rfl ?_
  refine sw_nil ?_
  refine pt_then ?_
  refine ct_seq ?_
  refine ct_seq ?_
  refine ct_region ?_
  refine sw_q rfl (q_move rfl) rfl rfl ?_
  refine sw_q rfl (q_len_slice rfl Try.underlying22) rfl rfl ?_
  refine sw_q rfl (q_move rfl) rfl rfl ?_
  refine sw_nil ?_
  refine pt_then ?_
  refine ct_block ?_
  refine ct_loop (fun x_ : Int × List Int × Int => match x_ with | (i, nn, last) => [(8, .slice A xs.length cap), (9, .int .i64 xs.length), (10, .int .i64 i), (3, .pointer (some ⟨b3, 0, none⟩)), (4, .int .i64 last)]) (fun x_ : Int × List Int × Int => match x_ with | (i, nn, last) => HS B ((b3, .cells (iv nn).toArray 41 (0, 0)) :: l)) (fun x_ : Int × List Int × Int => match x_ with | (i, nn, last) => 0 ≤ i ∧ i ≤ xs.length ∧ nn.length = 64 ∧ (∀ j, 0 ≤ nn.getD j 0 ∧ nn.getD j 0 ≤ i) ∧ 0 ≤ last ∧ last ≤ 64 ∧ bktL (xs.drop i.toNat) nn last = bktL xs (List.replicate 64 0) 0) (fun x_ : Int × List Int × Int => match x_ with | (i, nn, last) => (xs.length - i).toNat) (0, List.replicate 64 0, 0) (fun _ => HS.cl) ⟨by omega, by omega, by simp, repl0, by omega, by omega, by simp⟩ ⟨rfl, rfl, rfl, rfl, rfl, trivial⟩ (fun _ h => h) ?_
  rintro ⟨i, nn, last⟩ ⟨hi0, hi1, hn64, hnn, hl0, hl1, hI⟩; show CT _ _ [(8, .slice A xs.length cap), (9, .int .i64 xs.length), (10, .int .i64 i), (3, .pointer (some ⟨b3, 0, none⟩)), (4, .int .i64 last)] (HS B ((b3, .cells (iv nn).toArray 41 (0, 0)) :: l)) _ _
  refine ct_seq ?_
  refine ct_region ?_
  refine sw_q rfl (q_lss rfl rfl) rfl rfl ?_
  refine sw_nil ?_
  refine pt_then ?_
  refine ct_seq ?_
  refine ct_if rfl (fun c11 => ?_) (fun c11 => ?_)
  · skip
    refine ct_skip ?_
    refine pt_then ?_
    refine ct_seq ?_
    refine ct_block ?_
    refine ct_seq ?_
    refine ct_region ?_
    refine sw_q rfl (q_idx rfl rfl Try.underlying22 (sz := 1) (by kernel_rfl) hs.some (by omega)) rfl rfl ?_
    refine sw_q rfl (q_load rfl Try.underlying3 rfl (SlI.get (C := HS B (_ :: l)) (hs.mono fun _ h => HS.drop1 h) (by omega))) rfl rfl ?_
    have hxi : xs.getD i.toNat 0 ≤ 9223372036854775807 := getD_mem_le hx (by omega); have hbi : Lib.bitLen (max 0 (xs.getD i.toNat 0)).toNat ≤ 63 := bktI_le hxi; have hbj : bktI (xs.getD i.toNat 0) ≤ 63 := bktI_le hxi; have hnb := hnn (bktI (xs.getD i.toNat 0))
    refine sw_q rfl (q_assign rfl) rfl rfl ?_
    refine sw_nil ?_
    refine pt_then ?_
    refine ct_seq ?_
    refine ct_region ?_
    refine sw_q rfl (q_move rfl) rfl rfl ?_
    refine sw_q rfl (q_max2 rfl rfl) rfl rfl ?_
    refine sw_q rfl (q_convu rfl Try.underlying3 Try.underlying43 (by omega)) rfl rfl ?_
    refine sw_q rfl (q_call rfl (by kernel_rfl) (f_Len64 _ HS.cl (max 0 (xs.getD i.toNat 0)) (by omega) (by omega))) rfl rfl ?_
    refine sw_q rfl (q_assign rfl) rfl rfl ?_
    refine sw_nil ?_
    refine pt_then ?_
    refine ct_seq ?_
    refine ct_region ?_
    refine sw_q rfl (q_move rfl) rfl rfl ?_
    refine sw_q rfl (q_as (v' := .pointer (some ⟨b3, bktI (xs.getD i.toNat 0), none⟩)) (q_idxA rfl rfl Try.underlying41 (sz := 1) (by kernel_rfl) (by omega)) (by rw [addr_add, Nat.mul_one, Nat.zero_add]; rfl)) rfl rfl ?_
    refine sw_q rfl (q_load rfl Try.underlying3 rfl (ld_own 0 rfl (iv_at (by omega)))) rfl rfl ?_
    refine sw_q rfl (q_add rfl rfl (by omega)) rfl rfl ?_
    refine sw_q rfl (q_as (v' := .pointer (some ⟨b3, bktI (xs.getD i.toNat 0), none⟩)) (q_idxA rfl rfl Try.underlying41 (sz := 1) (by kernel_rfl) (by omega)) (by rw [addr_add, Nat.mul_one, Nat.zero_add]; rfl)) rfl rfl ?_
    refine sw_e0 rfl (e_store 0 (n := 1) (cs' := iv (nn.set (bktI (xs.getD i.toNat 0)) (nn.getD (bktI (xs.getD i.toNat 0)) 0 + 1))) rfl rfl rfl (by kernel_rfl) rfl rfl (ble_of (by rw [iv_len]; omega)) (spl_set (by omega))) rfl (fun _ => HS.cl) (fun _ _ => ?_)
    refine sw_nil ?_
    refine pt_then ?_
    refine ct_region ?_
    refine sw_q rfl (q_move rfl) rfl rfl ?_
    refine sw_q rfl (q_move rfl) rfl rfl ?_
    refine sw_q rfl (q_add rfl rfl (by omega)) rfl rfl ?_
    refine sw_q rfl (q_max2 rfl rfl) rfl rfl ?_
    refine sw_q rfl (q_assign rfl) rfl rfl ?_
    refine sw_nil ?_
    refine pt_block_normal ?_
    refine pt_then ?_
    refine ct_region ?_
    refine sw_q rfl (q_add rfl rfl (by omega)) rfl rfl ?_
    refine sw_q rfl (q_move rfl) rfl rfl ?_
    refine sw_nil ?_
    rw [getD_drop hi0 (by omega), bktL] at hI
    exact pt_round (x := (i, nn, last)) (i + 1, nn.set (bktI (xs.getD i.toNat 0)) (nn.getD (bktI (xs.getD i.toNat 0)) 0 + 1), max last (((bktI (xs.getD i.toNat 0) : Nat) : Int) + 1)) ⟨by omega, by omega, by simpa using hn64, bkt_step hnn, by omega, by omega, hI⟩ (by show ((xs.length : Int) - (i + 1)).toNat < ((xs.length : Int) - i).toNat; omega) ⟨rfl, rfl, rfl, rfl, rfl, trivial⟩ (fun _ h => h)
  · skip
    refine ct_exit ?_
    refine pt_then_exit ?_
    refine pt_then_exit ?_
    refine pt_block_hit ?_
    refine pt_then ?_
    refine ct_seq ?_
    refine ct_region ?_
    refine sw_q rfl (q_move rfl) rfl rfl ?_
    refine sw_q rfl (q_move rfl) rfl rfl ?_
    refine sw_q rfl (q_sliceA_hm rfl Try.underlying41 (sz := 1) (by kernel_rfl) rfl rfl (by omega)) rfl rfl ?_
    refine sw_q rfl (q_assign rfl) rfl rfl ?_
    refine sw_nil ?_
    refine pt_then ?_
    refine ct_ret ?_
    rw [drop_end (by omega), bktL_nil] at hI
    exact pt_res (res_1 rfl rfl) (fun _ h => ⟨_, rfl, (some ⟨b3, 0, none⟩, last.toNat, last.toNat, [(b3, .cells (iv nn).toArray 41 (0, 0))]), rfl, by rw [bucketsF_of hI]; exact own_sli (k := last.toNat) (by omega), h⟩)

set_option maxRecDepth 100000 in
theorem f_Lens {B : Base} {l : List (Nat × Obj)} {A : Option Addr} {cap : Nat} {ts : List Tok} (hlen : ts.length ≤ 1048576) (hs : SlT (HS B l) A ts.length ts) (w : World) (hw : HS B l w) : Calls Try.prog 9 #[.slice A ts.length cap] w (fun en w' => ∃ v, en = .returned v ∧ ∃ q : Option Addr × Nat × Nat × List (Nat × Obj), v = .slice q.1 q.2.1 q.2.2.1 ∧ SlI (HS B (q.2.2.2 ++ l)) q.1 q.2.1 (lensF ts) ∧ HS B (q.2.2.2 ++ l) w') := by
  refine calls_ct (N := 27) (args := [.slice A ts.length cap]) (C := HS B l) Try.func9 rfl Try.ntmps9 rfl HS.cl hw ?_
  refine ct_seq ?_
  refine ct_region ?_
  refine sw_q rfl (q_assign rfl) rfl rfl ?_
  refine sw_nil ?_
  refine pt_then ?_
  refine ct_seq ?_
  refine ct_region ?_
  refine sw_q rfl (q_assign rfl) rfl rfl ?_
  refine sw_nil ?_
  refine pt_then ?_
  refine ct_seq ?_
  refine ct_seq ?_
  refine ct_region ?_
  refine sw_q rfl (q_move rfl) rfl rfl ?_
  refine sw_q rfl (q_len_slice rfl Try.underlying36) rfl rfl ?_
  refine sw_q rfl (q_move rfl) rfl rfl ?_
  refine sw_nil ?_
  refine pt_then ?_
  refine ct_block ?_
  refine ct_loop (fun x_ : Int × List Int × Option Addr × Nat × List (Nat × Obj) => match x_ with | (i, ys, A1, cap1, cc) => [(6, .slice A ts.length cap), (7, .int .i64 ts.length), (8, .int .i64 i), (3, .slice A1 ys.length cap1)]) (fun x_ : Int × List Int × Option Addr × Nat × List (Nat × Obj) => match x_ with | (i, ys, A1, cap1, cc) => HS B (cc ++ l)) (fun x_ : Int × List Int × Option Addr × Nat × List (Nat × Obj) => match x_ with | (i, ys, A1, cap1, cc) => 0 ≤ i ∧ i ≤ ts.length ∧ (ys.length : Int) ≤ i ∧ Vec 3 1 A1 ys.length cap1 (iv ys) cc ∧ ys = lensF (ts.take i.toNat)) (fun x_ : Int × List Int × Option Addr × Nat × List (Nat × Obj) => match x_ with | (i, ys, A1, cap1, cc) => (ts.length - i).toNat) (0, [], none, 0, []) (fun _ => HS.cl) ⟨by omega, by omega, by simp, Vec.nil _ _, by simp [lensF]⟩ ⟨rfl, rfl, rfl, rfl, trivial⟩ (fun _ h => h) ?_
  rintro ⟨i, ys, A1, cap1, cc⟩ ⟨hi0, hi1, hy0, hV, hI⟩; show CT _ _ [(6, .slice A ts.length cap), (7, .int .i64 ts.length), (8, .int .i64 i), (3, .slice A1 ys.length cap1)] (HS B (cc ++ l)) _ _
  refine ct_seq ?_
  refine ct_region ?_
  refine sw_q rfl (q_lss rfl rfl) rfl rfl ?_
  refine sw_nil ?_
  refine pt_then ?_
  refine ct_seq ?_
  refine ct_if rfl (fun c9 => ?_) (fun c9 => ?_)
  · skip
    refine ct_skip ?_
    refine pt_then ?_
    refine ct_seq ?_
    refine ct_block ?_
    refine ct_seq ?_
    refine ct_region ?_
    refine sw_q rfl (q_idx rfl rfl Try.underlying36 (sz := 5) (by kernel_rfl) hs.some (by omega)) rfl rfl ?_
    refine sw_q rfl (q_loads (vs := iv (tokAt ts i).l) rfl Try.underlying35 rfl (by kernel_rfl) rfl (SlT.get (C := HS B (cc ++ l)) (hs.mono fun _ h => HS.drop h) (by omega))) rfl rfl ?_
    refine sw_e rfl (e_alloc (z := .agg #[.int .i64 0, .int .i64 0, .int .i64 0, .int .i64 0, .int .i64 0]) (by kernel_rfl)) rfl rfl (fun _ => HS.cl) (fun b5 _ => ?_)
    refine sw_e0 rfl (e_store 0 (n := 5) (cs := [.int .i64 0, .int .i64 0, .int .i64 0, .int .i64 0, .int .i64 0]) (cs' := iv (tokAt ts i).l) rfl rfl rfl (by kernel_rfl) rfl rfl rfl rfl) rfl (fun _ => HS.cl) (fun _ _ => ?_)
    refine sw_nil ?_
    refine pt_then ?_
    refine ct_test 19 (tokErr (tokAt ts i) = 0 ∧ (tokAt ts i).kind ≠ 0) ?_ ?_
    · skip
      refine ct_region ?_
      refine sw_q rfl (q_loads (vs := iv (tokAt ts i).l) rfl Try.underlying35 rfl (by kernel_rfl) rfl (lds_own 0 (n := 5) rfl rfl)) rfl rfl ?_
      refine sw_q rfl (q_call rfl (by kernel_rfl) (f_token_Check _ HS.cl (tokAt ts i))) rfl rfl ?_
      refine sw_q rfl (q_eql rfl rfl) rfl rfl ?_
      refine sw_qd rfl (q_move rfl) rfl rfl (fun h15 => ?_) (fun h15 => ?_)
      · skip
        refine sw_q rfl (q_fieldAddr 0 rfl (by kernel_rfl)) rfl rfl ?_
        refine sw_q rfl (q_load rfl Try.underlying3 rfl (ld_own 0 rfl (iv_at (xs := (tokAt ts i).l) (by simp [Tok.l])))) rfl rfl ?_
        refine sw_q rfl (q_neq rfl rfl) rfl rfl ?_
        refine sw_qd rfl (q_pick_t rfl rfl) rfl rfl (fun h19 => ?_) (fun h19 => ?_)
        · skip
          refine sw_nil ?_
          exact pt_test 8 true rfl rfl rfl (decide_eq_true (by first | omega | (simp only [Tok.l, List.getD_cons_zero, ne_eq] at *; omega)))
        · skip
          refine sw_nil ?_
          exact pt_test 8 false rfl rfl rfl (decide_eq_false (by first | omega | (simp only [Tok.l, List.getD_cons_zero, ne_eq] at *; omega)))
      · skip
        refine sw_skip rfl rfl rfl ?_
        refine sw_skip rfl rfl rfl ?_
        refine sw_skip rfl rfl rfl ?_
        refine sw_q rfl (q_pick_f rfl rfl) rfl rfl ?_
        refine sw_nil ?_
        exact pt_test 8 false rfl rfl rfl (decide_eq_false (by first | omega | (simp only [Tok.l, List.getD_cons_zero, ne_eq] at *; omega)))
    · skip
      refine ct_if rfl (fun c19 => ?_) (fun c19 => ?_)
      · skip
        refine ct_region ?_
        refine sw_q rfl (q_move rfl) rfl rfl ?_
        refine sw_q rfl (q_fieldAddr 2 rfl (by kernel_rfl)) rfl rfl ?_
        refine sw_q rfl (q_load rfl Try.underlying3 rfl (ld_own 0 rfl (iv_at (xs := (tokAt ts i).l) (by simp [Tok.l])))) rfl rfl ?_
        refine sw_e rfl (e_buildSlice (vs := [(0, .int .i64 (tokAt ts i).len)]) (cs := [.int .i64 (tokAt ts i).len]) (u := 3) rfl (fun w => by kernel_rfl)) rfl rfl (fun _ => HS.cl) (fun b23 _ => ?_)
        refine sw_e rfl (e_cls (C' := HS B (cc ++ ((b23, .cells #[.int .i64 (tokAt ts i).len] 3 (0, 0)) :: (b5, .cells (iv (tokAt ts i).l).toArray 35 (0, 0)) :: l))) (fun _ h => h.perm (by simpa using (List.perm_append_comm (l₁ := [(b23, _), (b5, _)]) (l₂ := cc)).append_right l)) (e_append (P := Try.prog) (T := 3) (sz := 1) (by_ := 8) (cells := iv ys) (news := [.int .i64 (tokAt ts i).len]) (zv := .int .i64 0) (ad := ⟨b23, 0, none⟩) (m := 1) rfl rfl Try.underlying22 (by kernel_rfl) rfl (by decide) hV (LDs.mono (C := HS B ((b23, .cells #[.int .i64 (tokAt ts i).len] 3 (0, 0)) :: (b5, .cells (iv (tokAt ts i).l).toArray 35 (0, 0)) :: l)) (lds_own 0 (n := 1) rfl rfl) (fun _ h => HS.drop h)) rfl rfl (by decide) (by decide) (by omega))) rfl rfl (fun _ => HS.cl) (fun ⟨A2, cap2, c2⟩ hV2 => ?_)
        refine sw_q rfl (q_assign rfl) rfl rfl ?_
        refine sw_nil ?_
        refine pt_block_normal ?_
        refine pt_then ?_
        refine ct_region ?_
        refine sw_q rfl (q_add rfl rfl (by omega)) rfl rfl ?_
        refine sw_q rfl (q_move rfl) rfl rfl ?_
        refine sw_nil ?_
        exact pt_round (x := (i, ys, A1, cap1, cc)) (i + 1, ys ++ [(tokAt ts i).len], A2, cap2, c2) ⟨by omega, by omega, by simp; omega, by simpa [iv] using hV2, by rw [tokTake (by omega) (by omega), lensF_snoc, if_pos c19, ← hI]⟩ (by show ((ts.length : Int) - (i + 1)).toNat < ((ts.length : Int) - i).toNat; omega) ⟨rfl, rfl, rfl, by simp [Env.lk], trivial⟩ (fun _ h => HS.mid (m := [_, _]) h)
      · skip
        refine ct_skip ?_
        refine pt_block_normal ?_
        refine pt_then ?_
        refine ct_region ?_
        refine sw_q rfl (q_add rfl rfl (by omega)) rfl rfl ?_
        refine sw_q rfl (q_move rfl) rfl rfl ?_
        refine sw_nil ?_
        exact pt_round (x := (i, ys, A1, cap1, cc)) (i + 1, ys, A1, cap1, cc) ⟨by omega, by omega, by omega, hV, by rw [tokTake (by omega) (by omega), lensF_snoc, if_neg c19, ← hI]⟩ (by show ((ts.length : Int) - (i + 1)).toNat < ((ts.length : Int) - i).toNat; omega) ⟨rfl, rfl, rfl, rfl, trivial⟩ (fun _ h => HS.drop1 h)
  · skip
    refine ct_exit ?_
    refine pt_then_exit ?_
    refine pt_then_exit ?_
    refine pt_block_hit ?_
    refine pt_then ?_
    refine ct_seq ?_
    refine ct_region ?_
    refine sw_q rfl (q_move rfl) rfl rfl ?_
    refine sw_q rfl (q_assign rfl) rfl rfl ?_
    refine sw_nil ?_
    refine pt_then ?_
    refine ct_ret ?_
    exact pt_res (res_1 rfl rfl) (fun _ h => ⟨_, rfl, (A1, ys.length, cap1, cc), rfl, by have := Vec.sli (B := B) (l := l) hV; rw [hI, List.take_of_length_le (by omega)] at this; rw [hI, List.take_of_length_le (by omega)]; exact this, h⟩)

set_option maxRecDepth 100000 in
theorem f_awake (C : World → Prop) (hC : Cl C)  : ∀ w, C w → Calls Try.prog 4 #[] w (fun en w' => en = .returned (.bool true) ∧ Ext w w') := by
  intro w hw
  refine calls_q (N := 50) (args := []) Try.func4 rfl Try.ntmps4 rfl (fun B hB => ?_)
  refine ct_seq ?_
  refine ct_region ?_
  refine sw_q rfl (q_assign rfl) rfl rfl ?_
  refine sw_nil ?_
  refine pt_then ?_
  refine ct_seq ?_
  refine ct_region ?_
  refine sw_e rfl (e_buildSlice (vs := [(0, .int .i64 3), (1, .int .i64 1), (2, .int .i64 2)]) (cs := iv [3, 1, 2]) (u := 3) rfl (fun w => by kernel_rfl)) rfl rfl (fun _ => HS.cl) (fun b8 _ => ?_)
  refine sw_q rfl (q_as (v' := .tuple #[.int .i64 2, .int .i64 0]) (q_call rfl (by kernel_rfl) (f_Quantile _ HS.cl (some ⟨b8, 0, none⟩) 3 [3, 1, 2] 1 2 (by decide) (own_sli (xs := [3, 1, 2]) (k := 3) (by decide)))) (by rw [quant_a])) rfl rfl ?_
  refine sw_q rfl (q_move rfl) rfl rfl ?_
  refine sw_q rfl (q_extract rfl rfl) rfl rfl ?_
  refine sw_q rfl (q_extract rfl rfl) rfl rfl ?_
  refine sw_q rfl (q_assign rfl) rfl rfl ?_
  refine sw_q rfl (q_assign rfl) rfl rfl ?_
  refine sw_nil ?_
  refine pt_then ?_
  refine ct_seq ?_
  refine ct_region ?_
  refine sw_q rfl (q_as (v' := .tuple #[.int .i64 0, .int .i64 7]) (q_call rfl (by kernel_rfl) (f_Quantile _ HS.cl none 0 [] 1 2 (by decide) ⟨rfl, Or.inl rfl, fun i r hr => by simp at hr⟩)) (by rw [quant_b])) rfl rfl ?_
  refine sw_q rfl (q_move rfl) rfl rfl ?_
  refine sw_q rfl (q_extract rfl rfl) rfl rfl ?_
  refine sw_q rfl (q_extract rfl rfl) rfl rfl ?_
  refine sw_q rfl (q_assign rfl) rfl rfl ?_
  refine sw_q rfl (q_assign rfl) rfl rfl ?_
  refine sw_nil ?_
  refine pt_then ?_
  refine ct_seq ?_
  refine ct_region ?_
  refine sw_e rfl (e_buildSlice (vs := [(0, .int .i64 1)]) (cs := iv [1]) (u := 3) rfl (fun w => by kernel_rfl)) rfl rfl (fun _ => HS.cl) (fun b17 _ => ?_)
  refine sw_q rfl (q_as (v' := .tuple #[.int .i64 0, .int .i64 1]) (q_call rfl (by kernel_rfl) (f_Quantile _ HS.cl (some ⟨b17, 0, none⟩) 1 [1] 3 2 (by decide) (own_sli (xs := [1]) (k := 1) (by decide)))) (by rw [quant_c])) rfl rfl ?_
  refine sw_q rfl (q_move rfl) rfl rfl ?_
  refine sw_q rfl (q_extract rfl rfl) rfl rfl ?_
  refine sw_q rfl (q_extract rfl rfl) rfl rfl ?_
  refine sw_q rfl (q_assign rfl) rfl rfl ?_
  refine sw_q rfl (q_assign rfl) rfl rfl ?_
  refine sw_nil ?_
  refine pt_then ?_
  refine ct_seq ?_
  refine ct_region ?_
  refine sw_q rfl (q_move rfl) rfl rfl ?_
  refine sw_q rfl (q_as (v' := .bool true) (q_eql rfl rfl) (by rfl)) rfl rfl ?_
  refine sw_q rfl (q_move rfl) rfl rfl ?_
  refine sw_q rfl (q_move rfl) rfl rfl ?_
  refine sw_q rfl (q_as (v' := .bool true) (q_eql rfl rfl) (by rfl)) rfl rfl ?_
  refine sw_q rfl (q_pick_t rfl rfl) rfl rfl ?_
  refine sw_q rfl (q_move rfl) rfl rfl ?_
  refine sw_q rfl (q_move rfl) rfl rfl ?_
  refine sw_q rfl (q_as (v' := .bool true) (q_eql rfl rfl) (by rfl)) rfl rfl ?_
  refine sw_q rfl (q_pick_t rfl rfl) rfl rfl ?_
  refine sw_q rfl (q_move rfl) rfl rfl ?_
  refine sw_q rfl (q_move rfl) rfl rfl ?_
  refine sw_q rfl (q_as (v' := .bool true) (q_eql rfl rfl) (by rfl)) rfl rfl ?_
  refine sw_q rfl (q_pick_t rfl rfl) rfl rfl ?_
  refine sw_q rfl (q_move rfl) rfl rfl ?_
  refine sw_e rfl (e_buildSlice (vs := [(0, .int .i64 0), (1, .int .i64 1), (2, .int .i64 2), (3, .int .i64 3), (4, .int .i64 4), (5, .int .i64 (-5))]) (cs := iv [0, 1, 2, 3, 4, -5]) (u := 3) rfl (fun w => by kernel_rfl)) rfl rfl (fun _ => HS.cl) (fun b36 _ => ?_)
  refine sw_e rfl (e_call rfl (by kernel_rfl) (fun w hw => f_Buckets (xs := [0, 1, 2, 3, 4, -5]) (by decide) (by decide) (own_sli (xs := [0, 1, 2, 3, 4, -5]) (k := 6) (by decide)) w hw)) rfl rfl (fun _ => HS.cl) (fun ⟨A1, n1, c1, q1⟩ hS1 => ?_)
  refine sw_e rfl (e_buildSlice (vs := [(0, .int .i64 2), (1, .int .i64 1), (2, .int .i64 2), (3, .int .i64 1)]) (cs := iv [2, 1, 2, 1]) (u := 3) rfl (fun w => by kernel_rfl)) rfl rfl (fun _ => HS.cl) (fun b38 _ => ?_)
  refine sw_q rfl (q_as (v' := .bool true) (q_call rfl (by kernel_rfl) (f_Ints _ HS.cl A1 (some ⟨b38, 0, none⟩) n1 4 c1 4 (bucketsF [0, 1, 2, 3, 4, -5]) [2, 1, 2, 1] (by have := SlI.len hS1; simp only at this; rw [bkt_a] at this; simp at this; omega) (by decide) (SlR.mono hS1 fun _ h => HS.drop1 h) (own_sli (xs := [2, 1, 2, 1]) (k := 4) (by decide)))) (by rw [bkt_a]; rfl)) rfl rfl ?_
  refine sw_q rfl (q_pick_t rfl rfl) rfl rfl ?_
  refine sw_q rfl (q_move rfl) rfl rfl ?_
  refine sw_q rfl (q_build (vs := [(1, .int .i64 1)]) (v := Value.agg (iv [0, 1, 0, 0, 0]).toArray) rfl (fun w => by kernel_rfl)) rfl rfl ?_
  refine sw_q rfl (q_build (vs := [(0, .int .i64 1), (2, .int .i64 9), (3, .int .i64 1)]) (v := Value.agg (iv [1, 0, 9, 1, 0]).toArray) rfl (fun w => by kernel_rfl)) rfl rfl ?_
  refine sw_q rfl (q_build (vs := [(0, .int .i64 5)]) (v := Value.agg (iv [5, 0, 0, 0, 0]).toArray) rfl (fun w => by kernel_rfl)) rfl rfl ?_
  refine sw_e rfl (e_buildSlice (vs := [(0, Value.agg (iv [0, 1, 0, 0, 0]).toArray), (1, Value.agg (iv [1, 0, 9, 1, 0]).toArray), (2, Value.agg (iv [5, 0, 0, 0, 0]).toArray)]) (cs := iv [0, 1, 0, 0, 0, 1, 0, 9, 1, 0, 5, 0, 0, 0, 0]) (u := 35) rfl (fun w => by kernel_rfl)) rfl rfl (fun _ => HS.cl) (fun b45 _ => ?_)
  refine sw_e rfl (e_call rfl (by kernel_rfl) (fun w hw => f_Lens (ts := [tk1, tk2, tk3]) (A := some ⟨b45, 0, none⟩) (by decide) ⟨rfl, Or.inr rfl, fun i r hr => by
        match i, hr with
        | 0, hr => cases hr; exact lds_own 0 (n := 5) rfl rfl
        | 1, hr => cases hr; exact lds_own 0 (n := 5) rfl rfl
        | 2, hr => cases hr; exact lds_own 0 (n := 5) rfl rfl
        | k + 3, hr => simp at hr⟩ w hw)) rfl rfl (fun _ => HS.cl) (fun ⟨A2, n2, c2, q2⟩ hS2 => ?_)
  refine sw_e rfl (e_buildSlice (vs := [(0, .int .i64 9)]) (cs := iv [9]) (u := 3) rfl (fun w => by kernel_rfl)) rfl rfl (fun _ => HS.cl) (fun b47 _ => ?_)
  refine sw_q rfl (q_as (v' := .bool true) (q_call rfl (by kernel_rfl) (f_Ints _ HS.cl A2 (some ⟨b47, 0, none⟩) n2 1 c2 1 (lensF [tk1, tk2, tk3]) [9] (by have := SlI.len hS2; simp only at this; rw [lens_a] at this; simp at this; omega) (by decide) (SlR.mono hS2 fun _ h => HS.drop1 h) (own_sli (xs := [9]) (k := 1) (by decide)))) (by rw [lens_a]; rfl)) rfl rfl ?_
  refine sw_q rfl (q_pick_t rfl rfl) rfl rfl ?_
  refine sw_q rfl (q_assign rfl) rfl rfl ?_
  refine sw_nil ?_
  refine pt_then ?_
  refine ct_ret ?_
  exact pt_res (res_1 rfl rfl) (fun _ h => ⟨rfl, _, h⟩)

set_option maxRecDepth 100000 in
theorem f_law (C : World → Prop) (hC : Cl C) (A : Option Addr) (c : Nat) (xs : List Int) (p0 p1 o : Int) (hl : xs.length ≤ 9223372036854775807) (hs : SlI C A xs.length xs) : ∀ w, C w → Calls Try.prog 3 #[.slice A xs.length c, .agg #[.int .i64 p0, .int .i64 p1], .int .i64 o] w (fun en w' => en = .returned (.bool true) ∧ Ext w w') := by
  intro w hw
  refine calls_q (N := 82) (args := [.slice A xs.length c, .agg #[.int .i64 p0, .int .i64 p1], .int .i64 o]) Try.func3 rfl Try.ntmps3 rfl (fun B hB => ?_)
  refine ct_seq ?_
  refine ct_region ?_
  refine sw_e rfl (e_box rfl) rfl rfl (fun _ => HS.cl) (fun b4 _ => ?_)
  refine sw_q rfl (q_assign rfl) rfl rfl ?_
  refine sw_nil ?_
  refine pt_then ?_
  refine ct_seq ?_
  refine ct_seq ?_
  refine ct_region ?_
  refine sw_q rfl (q_move rfl) rfl rfl ?_
  refine sw_q rfl (q_len_slice rfl Try.underlying22) rfl rfl ?_
  refine sw_q rfl (q_gtr rfl rfl) rfl rfl ?_
  refine sw_nil ?_
  refine pt_then ?_
  refine ct_if rfl (fun c15 => ?_) (fun c15 => ?_)
  · skip
    refine ct_seq ?_
    refine ct_region ?_
    refine sw_q rfl (q_call rfl (by kernel_rfl) (f_awake _ HS.cl)) rfl rfl ?_
    refine sw_q rfl (q_assign rfl) rfl rfl ?_
    refine sw_nil ?_
    refine pt_then ?_
    refine ct_ret ?_
    refine pt_then_ret ?_
    exact pt_res (res_1 rfl rfl) (fun _ h => ⟨rfl, _, h⟩)
  · skip
    refine ct_skip ?_
    refine pt_then ?_
    refine ct_seq ?_
    refine ct_region ?_
    refine sw_q rfl (q_move rfl) rfl rfl ?_
    refine sw_q rfl (q_idxA rfl rfl Try.underlying23 (sz := 1) (by kernel_rfl) (by omega)) rfl rfl ?_
    refine sw_q rfl (q_load rfl Try.underlying3 rfl (ld_own 0 rfl rfl)) rfl rfl ?_
    refine sw_q rfl (q_move rfl) rfl rfl ?_
    refine sw_q rfl (q_call rfl (by kernel_rfl) (f_Quantile _ HS.cl A c xs p0 o (by omega) (hs.toHS hw hB _))) rfl rfl ?_
    refine sw_q rfl (q_move rfl) rfl rfl ?_
    refine sw_q rfl (q_extract rfl rfl) rfl rfl ?_
    refine sw_q rfl (q_extract rfl rfl) rfl rfl ?_
    refine sw_q rfl (q_assign rfl) rfl rfl ?_
    refine sw_q rfl (q_assign rfl) rfl rfl ?_
    refine sw_nil ?_
    refine pt_then ?_
    refine ct_seq ?_
    refine ct_region ?_
    refine sw_q rfl (q_move rfl) rfl rfl ?_
    refine sw_q rfl (q_idxA rfl rfl Try.underlying23 (sz := 1) (by kernel_rfl) (by omega)) rfl rfl ?_
    refine sw_q rfl (q_load rfl Try.underlying3 rfl (ld_own 0 rfl rfl)) rfl rfl ?_
    refine sw_q rfl (q_move rfl) rfl rfl ?_
    refine sw_q rfl (q_call rfl (by kernel_rfl) (f_ref57_Quantile _ HS.cl A xs.length c xs p0 o (by omega) (hs.toHS hw hB _))) rfl rfl ?_
    refine sw_q rfl (q_move rfl) rfl rfl ?_
    refine sw_q rfl (q_extract rfl rfl) rfl rfl ?_
    refine sw_q rfl (q_extract rfl rfl) rfl rfl ?_
    refine sw_q rfl (q_assign rfl) rfl rfl ?_
    refine sw_q rfl (q_assign rfl) rfl rfl ?_
    refine sw_nil ?_
    refine pt_then ?_
    refine ct_seq ?_
    refine ct_region ?_
    refine sw_q rfl (q_move rfl) rfl rfl ?_
    refine sw_q rfl (q_idxA rfl rfl Try.underlying23 (sz := 1) (by kernel_rfl) (by omega)) rfl rfl ?_
    refine sw_q rfl (q_load rfl Try.underlying3 rfl (ld_own 0 rfl rfl)) rfl rfl ?_
    refine sw_q rfl (q_move rfl) rfl rfl ?_
    refine sw_q rfl (q_call rfl (by kernel_rfl) (f_Quantile _ HS.cl A c xs p1 o (by omega) (hs.toHS hw hB _))) rfl rfl ?_
    refine sw_q rfl (q_move rfl) rfl rfl ?_
    refine sw_q rfl (q_extract rfl rfl) rfl rfl ?_
    refine sw_q rfl (q_extract rfl rfl) rfl rfl ?_
    refine sw_q rfl (q_assign rfl) rfl rfl ?_
    refine sw_q rfl (q_assign rfl) rfl rfl ?_
    refine sw_nil ?_
    refine pt_then ?_
    refine ct_seq ?_
    refine ct_seq ?_
    refine ct_region ?_
    refine sw_q rfl (q_move rfl) rfl rfl ?_
    refine sw_q rfl (q_move rfl) rfl rfl ?_
    refine sw_q rfl (q_as (v' := .bool false) (q_neq rfl rfl) (by rw [quant_eq]; simp)) rfl rfl ?_
    refine sw_q rfl (q_move rfl) rfl rfl ?_
    refine sw_q rfl (q_move rfl) rfl rfl ?_
    refine sw_q rfl (q_move rfl) rfl rfl ?_
    refine sw_q rfl (q_as (v' := .bool false) (q_neq rfl rfl) (by rw [quant_eq]; simp)) rfl rfl ?_
    refine sw_q rfl (q_pick_f rfl rfl) rfl rfl ?_
    refine sw_nil ?_
    refine pt_then ?_
    refine ct_f rfl ?_
    refine ct_skip ?_
    refine pt_then ?_
    refine ct_seq ?_
    refine ct_region ?_
    refine sw_q rfl (q_move rfl) rfl rfl ?_
    refine sw_qd rfl (q_neq rfl rfl) rfl rfl (fun h50 => ?_) (fun h50 => ?_)
    · skip
      refine sw_q rfl (q_move rfl) rfl rfl ?_
      refine sw_skip rfl rfl rfl ?_
      refine sw_skip rfl rfl rfl ?_
      refine sw_q rfl (q_pick_t rfl rfl) rfl rfl ?_
      refine sw_q rfl (q_move rfl) rfl rfl ?_
      refine sw_skip rfl rfl rfl ?_
      refine sw_skip rfl rfl rfl ?_
      refine sw_skip rfl rfl rfl ?_
      refine sw_skip rfl rfl rfl ?_
      refine sw_skip rfl rfl rfl ?_
      refine sw_skip rfl rfl rfl ?_
      refine sw_skip rfl rfl rfl ?_
      refine sw_skip rfl rfl rfl ?_
      refine sw_skip rfl rfl rfl ?_
      refine sw_skip rfl rfl rfl ?_
      refine sw_skip rfl rfl rfl ?_
      refine sw_skip rfl rfl rfl ?_
      refine sw_skip rfl rfl rfl ?_
      refine sw_skip rfl rfl rfl ?_
      refine sw_skip rfl rfl rfl ?_
      refine sw_skip rfl rfl rfl ?_
      refine sw_skip rfl rfl rfl ?_
      refine sw_skip rfl rfl rfl ?_
      refine sw_skip rfl rfl rfl ?_
      refine sw_skip rfl rfl rfl ?_
      refine sw_skip rfl rfl rfl ?_
      refine sw_skip rfl rfl rfl ?_
      refine sw_q rfl (q_pick_t rfl rfl) rfl rfl ?_
      refine sw_q rfl (q_move rfl) rfl rfl ?_
      refine sw_q rfl (q_call rfl (by kernel_rfl) (f_awake _ HS.cl)) rfl rfl ?_
      refine sw_q rfl (q_pick_t rfl rfl) rfl rfl ?_
      refine sw_q rfl (q_assign rfl) rfl rfl ?_
      refine sw_nil ?_
      refine pt_then ?_
      refine ct_ret ?_
      exact pt_res (res_1 rfl rfl) (fun _ h => ⟨rfl, _, h⟩)
    · skip
      refine sw_q rfl (q_move rfl) rfl rfl ?_
      refine sw_q rfl (q_move rfl) rfl rfl ?_
      refine sw_qd rfl (q_neq rfl rfl) rfl rfl (fun h53 => ?_) (fun h53 => ?_)
      · skip
        refine sw_q rfl (q_pick_f rfl rfl) rfl rfl ?_
        refine sw_q rfl (q_move rfl) rfl rfl ?_
        refine sw_skip rfl rfl rfl ?_
        refine sw_skip rfl rfl rfl ?_
        refine sw_skip rfl rfl rfl ?_
        refine sw_skip rfl rfl rfl ?_
        refine sw_skip rfl rfl rfl ?_
        refine sw_skip rfl rfl rfl ?_
        refine sw_skip rfl rfl rfl ?_
        refine sw_skip rfl rfl rfl ?_
        refine sw_skip rfl rfl rfl ?_
        refine sw_skip rfl rfl rfl ?_
        refine sw_skip rfl rfl rfl ?_
        refine sw_skip rfl rfl rfl ?_
        refine sw_skip rfl rfl rfl ?_
        refine sw_skip rfl rfl rfl ?_
        refine sw_skip rfl rfl rfl ?_
        refine sw_skip rfl rfl rfl ?_
        refine sw_skip rfl rfl rfl ?_
        refine sw_skip rfl rfl rfl ?_
        refine sw_skip rfl rfl rfl ?_
        refine sw_skip rfl rfl rfl ?_
        refine sw_skip rfl rfl rfl ?_
        refine sw_skip rfl rfl rfl ?_
        refine sw_q rfl (q_pick_t rfl rfl) rfl rfl ?_
        refine sw_q rfl (q_move rfl) rfl rfl ?_
        refine sw_q rfl (q_call rfl (by kernel_rfl) (f_awake _ HS.cl)) rfl rfl ?_
        refine sw_q rfl (q_pick_t rfl rfl) rfl rfl ?_
        refine sw_q rfl (q_assign rfl) rfl rfl ?_
        refine sw_nil ?_
        refine pt_then ?_
        refine ct_ret ?_
        exact pt_res (res_1 rfl rfl) (fun _ h => ⟨rfl, _, h⟩)
      · skip
        refine sw_q rfl (q_pick_f rfl rfl) rfl rfl ?_
        refine sw_q rfl (q_move rfl) rfl rfl ?_
        refine sw_q rfl (q_idxA rfl rfl Try.underlying23 (sz := 1) (by kernel_rfl) (by omega)) rfl rfl ?_
        refine sw_q rfl (q_load rfl Try.underlying3 rfl (ld_own 0 rfl rfl)) rfl rfl ?_
        refine sw_q rfl (q_idxA rfl rfl Try.underlying23 (sz := 1) (by kernel_rfl) (by omega)) rfl rfl ?_
        refine sw_q rfl (q_load rfl Try.underlying3 rfl (ld_own 0 rfl rfl)) rfl rfl ?_
        refine sw_qd rfl (q_leq rfl rfl) rfl rfl (fun h60 => ?_) (fun h60 => ?_)
        · skip
          refine sw_q rfl (q_move rfl) rfl rfl ?_
          refine sw_skip rfl rfl rfl ?_
          refine sw_skip rfl rfl rfl ?_
          refine sw_skip rfl rfl rfl ?_
          refine sw_q rfl (q_pick_t rfl rfl) rfl rfl ?_
          refine sw_q rfl (q_move rfl) rfl rfl ?_
          refine sw_q rfl (q_idxA rfl rfl Try.underlying23 (sz := 1) (by kernel_rfl) (by omega)) rfl rfl ?_
          refine sw_q rfl (q_load rfl Try.underlying3 rfl (ld_own 0 rfl rfl)) rfl rfl ?_
          refine sw_q rfl (q_idxA rfl rfl Try.underlying23 (sz := 1) (by kernel_rfl) (by omega)) rfl rfl ?_
          refine sw_q rfl (q_load rfl Try.underlying3 rfl (ld_own 0 rfl rfl)) rfl rfl ?_
          refine sw_qd rfl (q_geq rfl rfl) rfl rfl (fun h71 => ?_) (fun h71 => ?_)
          · skip
            refine sw_q rfl (q_move rfl) rfl rfl ?_
            refine sw_skip rfl rfl rfl ?_
            refine sw_skip rfl rfl rfl ?_
            refine sw_skip rfl rfl rfl ?_
            refine sw_q rfl (q_pick_t rfl rfl) rfl rfl ?_
            refine sw_q rfl (q_pick_t rfl rfl) rfl rfl ?_
            refine sw_q rfl (q_pick_f rfl rfl) rfl rfl ?_
            refine sw_q rfl (q_move rfl) rfl rfl ?_
            refine sw_q rfl (q_call rfl (by kernel_rfl) (f_awake _ HS.cl)) rfl rfl ?_
            refine sw_q rfl (q_pick_t rfl rfl) rfl rfl ?_
            refine sw_q rfl (q_assign rfl) rfl rfl ?_
            refine sw_nil ?_
            refine pt_then ?_
            refine ct_ret ?_
            exact pt_res (res_1 rfl rfl) (fun _ h => ⟨rfl, _, h⟩)
          · skip
            refine sw_q rfl (q_move rfl) rfl rfl ?_
            refine sw_q rfl (q_move rfl) rfl rfl ?_
            refine sw_q rfl (q_move rfl) rfl rfl ?_
            refine sw_qd rfl (q_leq rfl rfl) rfl rfl (fun h75 => ?_) (fun h75 => ?_)
            · skip
              refine sw_q rfl (q_pick_f rfl rfl) rfl rfl ?_
              refine sw_q rfl (q_pick_t rfl rfl) rfl rfl ?_
              refine sw_q rfl (q_pick_f rfl rfl) rfl rfl ?_
              refine sw_q rfl (q_move rfl) rfl rfl ?_
              refine sw_q rfl (q_call rfl (by kernel_rfl) (f_awake _ HS.cl)) rfl rfl ?_
              refine sw_q rfl (q_pick_t rfl rfl) rfl rfl ?_
              refine sw_q rfl (q_assign rfl) rfl rfl ?_
              refine sw_nil ?_
              refine pt_then ?_
              refine ct_ret ?_
              exact pt_res (res_1 rfl rfl) (fun _ h => ⟨rfl, _, h⟩)
            · skip
              refine sw_q rfl (q_pick_f rfl rfl) rfl rfl ?_
              refine sw_q rfl (q_pick_t rfl rfl) rfl rfl ?_
              refine sw_q rfl (q_pick_f rfl rfl) rfl rfl ?_
              refine sw_q rfl (q_move rfl) rfl rfl ?_
              refine sw_skip rfl rfl rfl ?_
              refine sw_q rfl (q_pick_f rfl rfl) rfl rfl ?_
              refine sw_q rfl (q_assign rfl) rfl rfl ?_
              refine sw_nil ?_
              refine pt_then ?_
              refine ct_ret ?_
              exfalso
              have hm1 := @quant_mono xs p0 p1 o
              have hm2 := @quant_mono xs p1 p0 o
              omega
        · skip
          refine sw_q rfl (q_move rfl) rfl rfl ?_
          refine sw_q rfl (q_move rfl) rfl rfl ?_
          refine sw_q rfl (q_move rfl) rfl rfl ?_
          refine sw_qd rfl (q_geq rfl rfl) rfl rfl (fun h64 => ?_) (fun h64 => ?_)
          · skip
            refine sw_q rfl (q_pick_f rfl rfl) rfl rfl ?_
            refine sw_q rfl (q_move rfl) rfl rfl ?_
            refine sw_q rfl (q_idxA rfl rfl Try.underlying23 (sz := 1) (by kernel_rfl) (by omega)) rfl rfl ?_
            refine sw_q rfl (q_load rfl Try.underlying3 rfl (ld_own 0 rfl rfl)) rfl rfl ?_
            refine sw_q rfl (q_idxA rfl rfl Try.underlying23 (sz := 1) (by kernel_rfl) (by omega)) rfl rfl ?_
            refine sw_q rfl (q_load rfl Try.underlying3 rfl (ld_own 0 rfl rfl)) rfl rfl ?_
            refine sw_qd rfl (q_geq rfl rfl) rfl rfl (fun h71 => ?_) (fun h71 => ?_)
            · skip
              refine sw_q rfl (q_move rfl) rfl rfl ?_
              refine sw_skip rfl rfl rfl ?_
              refine sw_skip rfl rfl rfl ?_
              refine sw_skip rfl rfl rfl ?_
              refine sw_q rfl (q_pick_t rfl rfl) rfl rfl ?_
              refine sw_q rfl (q_pick_t rfl rfl) rfl rfl ?_
              refine sw_q rfl (q_pick_f rfl rfl) rfl rfl ?_
              refine sw_q rfl (q_move rfl) rfl rfl ?_
              refine sw_q rfl (q_call rfl (by kernel_rfl) (f_awake _ HS.cl)) rfl rfl ?_
              refine sw_q rfl (q_pick_t rfl rfl) rfl rfl ?_
              refine sw_q rfl (q_assign rfl) rfl rfl ?_
              refine sw_nil ?_
              refine pt_then ?_
              refine ct_ret ?_
              exact pt_res (res_1 rfl rfl) (fun _ h => ⟨rfl, _, h⟩)
            · skip
              refine sw_q rfl (q_move rfl) rfl rfl ?_
              refine sw_q rfl (q_move rfl) rfl rfl ?_
              refine sw_q rfl (q_move rfl) rfl rfl ?_
              refine sw_qd rfl (q_leq rfl rfl) rfl rfl (fun h75 => ?_) (fun h75 => ?_)
              · skip
                refine sw_q rfl (q_pick_f rfl rfl) rfl rfl ?_
                refine sw_q rfl (q_pick_t rfl rfl) rfl rfl ?_
                refine sw_q rfl (q_pick_f rfl rfl) rfl rfl ?_
                refine sw_q rfl (q_move rfl) rfl rfl ?_
                refine sw_q rfl (q_call rfl (by kernel_rfl) (f_awake _ HS.cl)) rfl rfl ?_
                refine sw_q rfl (q_pick_t rfl rfl) rfl rfl ?_
                refine sw_q rfl (q_assign rfl) rfl rfl ?_
                refine sw_nil ?_
                refine pt_then ?_
                refine ct_ret ?_
                exact pt_res (res_1 rfl rfl) (fun _ h => ⟨rfl, _, h⟩)
              · skip
                refine sw_q rfl (q_pick_f rfl rfl) rfl rfl ?_
                refine sw_q rfl (q_pick_t rfl rfl) rfl rfl ?_
                refine sw_q rfl (q_pick_f rfl rfl) rfl rfl ?_
                refine sw_q rfl (q_move rfl) rfl rfl ?_
                refine sw_skip rfl rfl rfl ?_
                refine sw_q rfl (q_pick_f rfl rfl) rfl rfl ?_
                refine sw_q rfl (q_assign rfl) rfl rfl ?_
                refine sw_nil ?_
                refine pt_then ?_
                refine ct_ret ?_
                exfalso
                have hm1 := @quant_mono xs p0 p1 o
                have hm2 := @quant_mono xs p1 p0 o
                omega
          · skip
            refine sw_q rfl (q_pick_f rfl rfl) rfl rfl ?_
            refine sw_q rfl (q_move rfl) rfl rfl ?_
            refine sw_skip rfl rfl rfl ?_
            refine sw_skip rfl rfl rfl ?_
            refine sw_skip rfl rfl rfl ?_
            refine sw_skip rfl rfl rfl ?_
            refine sw_skip rfl rfl rfl ?_
            refine sw_skip rfl rfl rfl ?_
            refine sw_skip rfl rfl rfl ?_
            refine sw_skip rfl rfl rfl ?_
            refine sw_skip rfl rfl rfl ?_
            refine sw_skip rfl rfl rfl ?_
            refine sw_q rfl (q_pick_f rfl rfl) rfl rfl ?_
            refine sw_q rfl (q_pick_f rfl rfl) rfl rfl ?_
            refine sw_q rfl (q_move rfl) rfl rfl ?_
            refine sw_skip rfl rfl rfl ?_
            refine sw_q rfl (q_pick_f rfl rfl) rfl rfl ?_
            refine sw_q rfl (q_assign rfl) rfl rfl ?_
            refine sw_nil ?_
            refine pt_then ?_
            refine ct_ret ?_
            exfalso
            have hm1 := @quant_mono xs p0 p1 o
            have hm2 := @quant_mono xs p1 p0 o
            omega

end Go.Proofs.Ytplefcfekfjjbaa
