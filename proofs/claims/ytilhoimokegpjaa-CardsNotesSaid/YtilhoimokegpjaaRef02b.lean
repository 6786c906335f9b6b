/- The document's answer for layer 2: Base, First, Cross. -/
import Derived.Test.YtilhoimokegpjaaRef02
namespace Go.Proofs.Ytilhoimokegpjaa
open Go.Vc

theorem RBase_spec (a0 a1 a2 a3 a4 a5 n : Int) (h0 : 0 ≤ a3) (h01 : a3 ≤ 4194304) (h : 1 ≤ a1) (hm : a3 * a1 ≤ 4194304) (w : World) :
    CallC Pr f_gleanerref02_Geom_Base [geoV a0 a1 a2 a3 a4 a5, .int .i64 n] w (fun v w' => v = (if n < 0 ∨ a3 ≤ n then .tuple #[.int .i64 0, .int .i64 2] else .tuple #[.int .i64 (n * a1), .int .i64 0]) ∧ Fr No w w') := by
  refine call_sound T_ok fun_gleanerref02_Geom_Base rfl (by kernel_rfl) rfl ?_
  refine NewC_blk (fun b w1 hb h2 f1 _ => ?_)
  refine LdC_blk h2 rfl ?_
  refine CallC_intro (in_spec n 0 _ w1) (fun v w2 ⟨hv, f2⟩ => ?_)
  subst hv
  have ew : IntKind.i64.wrap (a3 - 1) = a3 - 1 := wrap_i64 (by omega) (by omega)
  refine Br_ndec (fun g => ?_) (fun g => ?_)
  · have g : ¬ (0 ≤ n ∧ n ≤ IntKind.i64.wrap (a3 - 1)) := g
    rw [ew] at g
    exact ⟨by rw [if_pos (by omega)]; rfl, f1.no f2⟩
  · have g : 0 ≤ n ∧ n ≤ IntKind.i64.wrap (a3 - 1) := g
    rw [ew] at g
    refine LdC_blk (h2.keep f2 id) rfl ?_
    refine ⟨?_, f1.no f2⟩
    rw [if_neg (by omega)]
    have m0 := Int.mul_nonneg g.1 (show 0 ≤ a1 by omega)
    have m1 := Int.mul_le_mul_of_nonneg_right (show n ≤ a3 by omega) (show 0 ≤ a1 by omega)
    show Value.tuple #[.int .i64 (IntKind.i64.wrap (n * a1)), .int .i64 0] = _
    rw [wrap_i64 (by omega) (by omega)]
theorem RFirst_spec (a0 a1 a2 a3 a4 a5 n : Int) (h0 : 0 ≤ a4) (h01 : a4 ≤ 4194304) (h : 1 ≤ a2) (hm : a4 * a2 ≤ 4194304) (w : World) :
    CallC Pr f_gleanerref02_Geom_First [geoV a0 a1 a2 a3 a4 a5, .int .i64 n] w (fun v w' => v = (if n < 0 ∨ a4 ≤ n then .tuple #[.int .i64 0, .int .i64 2] else .tuple #[.int .i64 (n * a2), .int .i64 0]) ∧ Fr No w w') := by
  refine call_sound T_ok fun_gleanerref02_Geom_First rfl (by kernel_rfl) rfl ?_
  refine NewC_blk (fun b w1 hb h2 f1 _ => ?_)
  refine LdC_blk h2 rfl ?_
  refine CallC_intro (in_spec n 0 _ w1) (fun v w2 ⟨hv, f2⟩ => ?_)
  subst hv
  have ew : IntKind.i64.wrap (a4 - 1) = a4 - 1 := wrap_i64 (by omega) (by omega)
  refine Br_ndec (fun g => ?_) (fun g => ?_)
  · have g : ¬ (0 ≤ n ∧ n ≤ IntKind.i64.wrap (a4 - 1)) := g
    rw [ew] at g
    exact ⟨by rw [if_pos (by omega)]; rfl, f1.no f2⟩
  · have g : 0 ≤ n ∧ n ≤ IntKind.i64.wrap (a4 - 1) := g
    rw [ew] at g
    refine LdC_blk (h2.keep f2 id) rfl ?_
    refine ⟨?_, f1.no f2⟩
    rw [if_neg (by omega)]
    have m0 := Int.mul_nonneg g.1 (show 0 ≤ a2 by omega)
    have m1 := Int.mul_le_mul_of_nonneg_right (show n ≤ a4 by omega) (show 0 ≤ a2 by omega)
    show Value.tuple #[.int .i64 (IntKind.i64.wrap (n * a2)), .int .i64 0] = _
    rw [wrap_i64 (by omega) (by omega)]
theorem RCross_spec (a0 a1 a2 a3 a4 a5 x y : Int) (h0 : 1 ≤ a0) (h01 : a0 ≤ 4194304) (h : 1 ≤ a1) (w : World) :
    CallC Pr f_gleanerref02_Geom_Cross [geoV a0 a1 a2 a3 a4 a5, .int .i64 x, .int .i64 y] w
      (fun v w' => v = .bool (decide ((0 ≤ x ∧ x < a0) ∧ (0 ≤ y ∧ y < a0) ∧ x / a1 ≠ y / a1)) ∧ Fr No w w') := by
  refine call_sound T_ok fun_gleanerref02_Geom_Cross rfl (by kernel_rfl) rfl ?_
  refine NewC_blk (fun b w1 hb h1 f1 _ => ?_)
  refine AnyC_ord [0, 1, 1002, 3, 4, 5, 6, 1007, 8, 9, 10, 11, 12, 14, 15, 1013, 1016, 17, 18, 19] T_ok mixed (by kernel_rfl) (by kernel_rfl) ?_
  refine LdSN_blk (vs := geoL a0 a1 a2 a3 a4 a5) h1 rfl rfl ?_
  refine ⟨?_, trivial⟩
  refine CallC_intro (RRegion_spec a0 a1 a2 a3 a4 a5 x h0 h01 h _) (fun v w2 ⟨hv, f2⟩ => ?_)
  subst hv
  have f2 := f2.drewL
  refine Sd_intro f2.old ?_
  by_cases hx : 0 ≤ x ∧ x < a0
  · have ex : (if x < 0 ∨ a0 ≤ x then (-1 : Int) else x / a1) = x / a1 := if_neg (by omega)
    refine Br_dt (show (if x < 0 ∨ a0 ≤ x then (-1 : Int) else x / a1) ≥ 0 by rw [ex]; exact Int.ediv_nonneg hx.1 (by omega)) ?_
    refine LdSN_blk (vs := geoL a0 a1 a2 a3 a4 a5) h1 rfl rfl ?_
    refine ⟨?_, trivial⟩
    refine CallC_intro (RRegion_spec a0 a1 a2 a3 a4 a5 y h0 h01 h _) (fun v w3 ⟨hv, f3⟩ => ?_)
    subst hv
    have f3 := f2.no f3
    refine Sd_intro f3.old ?_
    by_cases hy : 0 ≤ y ∧ y < a0
    · have ey : (if y < 0 ∨ a0 ≤ y then (-1 : Int) else y / a1) = y / a1 := if_neg (by omega)
      refine Br_dt (show (if y < 0 ∨ a0 ≤ y then (-1 : Int) else y / a1) ≥ 0 by rw [ey]; exact Int.ediv_nonneg hy.1 (by omega)) ?_
      refine LdSN_blk (vs := geoL a0 a1 a2 a3 a4 a5) h1 rfl rfl ?_
      refine LdSN_blk (vs := geoL a0 a1 a2 a3 a4 a5) h1 rfl rfl ?_
      refine ⟨?_, trivial⟩
      refine CallC_intro (RRegion_spec a0 a1 a2 a3 a4 a5 x h0 h01 h _) (fun v w4 ⟨hv, f4⟩ => ?_)
      subst hv
      have f4 := f3.no f4
      refine Sd_intro f4.old ?_
      refine ⟨?_, trivial⟩
      refine CallC_intro (RRegion_spec a0 a1 a2 a3 a4 a5 y h0 h01 h _) (fun v w5 ⟨hv, f5⟩ => ?_)
      subst hv
      have f5 := f4.no f5
      refine Sd_intro f5.old ?_
      refine ⟨?_, f1.no f5⟩
      show Value.bool (!decide ((if x < 0 ∨ a0 ≤ x then (-1 : Int) else x / a1) = (if y < 0 ∨ a0 ≤ y then (-1 : Int) else y / a1))) = _
      rw [ex, ey, ← decide_not]
      congr 1
      exact decide_eq_decide.2 ⟨fun h => ⟨hx, hy, h⟩, fun h => h.2.2⟩
    · have ey : (if y < 0 ∨ a0 ≤ y then (-1 : Int) else y / a1) = -1 := if_pos (by omega)
      refine Br_df (show ¬ (if y < 0 ∨ a0 ≤ y then (-1 : Int) else y / a1) ≥ 0 by rw [ey]; omega) ?_
      refine ⟨?_, trivial⟩
      refine ⟨?_, trivial⟩
      refine ⟨?_, f1.no f3⟩
      show Value.bool false = _
      rw [decide_eq_false (fun h => hy h.2.1)]
  · have ex : (if x < 0 ∨ a0 ≤ x then (-1 : Int) else x / a1) = -1 := if_pos (by omega)
    refine Br_df (show ¬ (if x < 0 ∨ a0 ≤ x then (-1 : Int) else x / a1) ≥ 0 by rw [ex]; omega) ?_
    refine ⟨?_, trivial⟩
    refine ⟨?_, trivial⟩
    refine ⟨?_, trivial⟩
    refine ⟨?_, f1.no f2⟩
    show Value.bool false = _
    rw [decide_eq_false (fun h => hx h.1)]
end Go.Proofs.Ytilhoimokegpjaa
