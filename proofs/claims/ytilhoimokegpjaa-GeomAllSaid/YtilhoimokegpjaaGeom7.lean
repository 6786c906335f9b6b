/- Layer 2 (geom): GeomSpans. -/
import Derived.Test.YtilhoimokegpjaaGeom6
namespace Go.Proofs.Ytilhoimokegpjaa
open Go.Vc

theorem P_even {c : Cfg} (h : Valid c) : P c = 2 * (P c / 2) := by
  have hs := h.s0
  have : P c = 2 * 2 ^ (c.c0.toNat - 1) := by
    have := pow_split (show 1 ≤ c.c0.toNat by omega)
    rw [Int.pow_one] at this
    exact this
  omega
def zz (size : Int) : Int := (IntKind.i64.wrap (Int.tmod size 4194304 + 4194304)).tmod 4194304
theorem zz_bd (size : Int) : 0 ≤ zz size ∧ zz size < 4194304 := by
  unfold zz
  have a1 := Int.tmod_lt_of_pos size (show (0 : Int) < 4194304 by omega)
  have a2 := Int.lt_tmod_of_pos size (show (0 : Int) < 4194304 by omega)
  rw [wrap_i64 (by omega) (by omega), tmod_eq (by omega)]
  omega
/-- How many regions: just enough. -/
theorem span_bd {z p : Int} (hz : 1 ≤ z) (hp : 1 ≤ p) : z ≤ ((z - 1) / p + 1) * p ∧ ((z - 1) / p) * p < z ∧ 0 ≤ (z - 1) / p ∧ ((z - 1) / p) * p ≤ z - 1 := by
  have h1 := Int.ediv_mul_le (z - 1) (show p ≠ 0 by omega)
  have h2 := Int.mul_ediv_add_emod (z - 1) p
  have h3 := Int.emod_lt_of_pos (z - 1) (show 0 < p by omega)
  have h4 := Int.mul_comm p ((z - 1) / p)
  have h5 : 0 ≤ (z - 1) / p := Int.ediv_nonneg (by omega) (by omega)
  rw [Int.add_mul, Int.one_mul]
  omega
theorem GeomSpans_spec (c : Cfg) (size : Int) (w : World) : CallC Pr f_gleanerlaw02_GeomSpans [cfgV c, .int .i64 size] w (fun v w' => v = .bool true ∧ Fr No w w') := by
  refine call_sound T_ok fun_gleanerlaw02_GeomSpans rfl (by kernel_rfl) rfl ?_
  refine NewC_blk (fun b w1 hb h1 f1 _ => ?_)
  have h1 : Blk w1 b t_api_Config (cfgL c) := h1
  refine CallC_intro (awake2_spec w1) (fun v w2 ⟨hv, f2⟩ => ?_)
  subst hv
  refine LdN_blk (vs := cfgL c) (h1.keep f2 id) rfl rfl ?_
  refine CallC_intro (geom_New_spec c w2) (fun v w3 ⟨hv, f3⟩ => ?_)
  have f13 := (f1.no f2).no f3
  rcases hv with ⟨hV, hv⟩ | ⟨hn, hv⟩
  · subst hv
    refine NewC_blk (fun p w4 hp h4 f4 _ => ?_)
    refine StN_blk h4 rfl (Nat.le_refl 6) (fun w5 h5 f5 _ => ?_)
    have h5 : Blk w5 p 29 (geoL (c.c1 * P c) (P c) (Q c) c.c1 (c.c1 * P c / Q c) (min 1048576 (c.c1 * P c - P c))) := h5
    have f := f13.no (f4.new f5 (fun _ _ e => e) (fun _ e => by omega))
    have hs := hV.s0
    have hs1 := hV.s1
    have hp := P_le hV
    have he := P_even hV
    refine Sd_intro (by omega) ?_
    refine Sd_intro (by omega) ?_
    have z0 := zz_bd size
    refine LdN_blk (vs := geoL (c.c1 * P c) (P c) (Q c) c.c1 (c.c1 * P c / Q c) (min 1048576 (c.c1 * P c - P c))) h5 rfl rfl ?_
    refine CallC_intro (Span_spec _ _ _ _ _ (zz size) c.c0.toNat (by omega) z0.1 (by omega) w5) (fun v w6 ⟨hv, f6⟩ => ?_)
    have h6 := h5.keep f6 id
    have f := f.no f6
    have last : ∀ w7 : World, Blk w7 p 29 (geoL (c.c1 * P c) (P c) (Q c) c.c1 (c.c1 * P c / Q c) (min 1048576 (c.c1 * P c - P c))) → Fr No w w7 → True := fun _ _ _ => trivial
    clear last
    by_cases hz : zz size < 1
    · rw [if_pos hz] at hv
      subst hv
      refine LdC_blk h6 rfl ?_
      have e0 : IntKind.i64.wrap (0 * P c) = 0 := by rw [Int.zero_mul]; decide
      refine Br_df (show ¬ IntKind.i64.wrap (0 * P c) < zz size by rw [e0]; omega) ?_
      refine Br_df (show ¬ zz size > 0 by omega) ?_
      refine Br_dt (show zz size = 0 by omega) ?_
      refine AnyC_ord [0, 1, 3, 4, 5, 6, 7, 1002, 8, 9, 10, 11, 12, 14, 15, 1013, 16, 17, 18] T_ok mixed (by kernel_rfl) (by kernel_rfl) ?_
      refine LdSN_blk (vs := geoL (c.c1 * P c) (P c) (Q c) c.c1 (c.c1 * P c / Q c) (min 1048576 (c.c1 * P c - P c))) h6 rfl rfl ?_
      refine LdS_blk h6 rfl ?_
      refine ⟨?_, trivial⟩
      refine CallC_intro (Big_spec _ _ _ _ _ _ (zz size) _) (fun v w7 ⟨hv, f7⟩ => ?_)
      subst hv
      have f67 := f7.drewL
      refine Sd_intro f67.old ?_
      have h7 := h6.keep f67 id
      have f := f.no f67
      have eb : (decide (zz size > P c / 2) == decide (IntKind.i64.wrap (2 * zz size) > P c)) = true := by
        rw [wrap_i64 (by omega) (by omega), beq_iff_eq]
        exact decide_eq_decide.2 (by omega)
      refine Br_t eb ?_
      refine LdSN_blk (vs := geoL (c.c1 * P c) (P c) (Q c) c.c1 (c.c1 * P c / Q c) (min 1048576 (c.c1 * P c - P c))) h6 rfl rfl ?_
      refine LdS_blk h6 rfl ?_
      refine LdS_blk h6 rfl ?_
      refine ⟨?_, trivial⟩
      refine CallC_intro (Span_spec _ _ _ _ _ (min 1048576 (c.c1 * P c - P c)) c.c0.toNat (by omega) (by omega) (by omega) w7) (fun v w8 ⟨hv, f8⟩ => ?_)
      rw [if_neg (by omega)] at hv
      subst hv
      refine Sd_intro (f67.no f8).old ?_
      refine ⟨?_, f.no f8⟩
      have hM : (min 1048576 (c.c1 * P c - P c) - 1) / 2 ^ c.c0.toNat + 1 < c.c1 := by
        have : (min 1048576 (c.c1 * P c - P c) - 1) / P c < c.c1 - 1 := Int.ediv_lt_of_lt_mul (by omega) (by rw [Int.sub_mul, Int.one_mul]; omega)
        show (min 1048576 (c.c1 * P c - P c) - 1) / P c + 1 < c.c1
        omega
      show Value.bool (decide ((min 1048576 (c.c1 * P c - P c) - 1) / 2 ^ c.c0.toNat + 1 < c.c1)) = _
      rw [decide_eq_true hM]
    · rw [if_neg hz] at hv
      subst hv
      have hsp := span_bd (z := zz size) (p := P c) (by omega) (by omega)
      have hq2 := Int.ediv_le_self (a := zz size - 1) (P c) (by omega)
      have hq4 : 0 ≤ (zz size - 1) / P c * P c := Int.mul_nonneg hsp.2.2.1 (by omega)
      have hq3 : ((zz size - 1) / P c + 1) * P c ≤ 8388608 := by rw [Int.add_mul, Int.one_mul]; omega
      have e0 : IntKind.i64.wrap (((zz size - 1) / 2 ^ c.c0.toNat + 1) * P c) = ((zz size - 1) / P c + 1) * P c := by
        show IntKind.i64.wrap (((zz size - 1) / P c + 1) * P c) = _
        rw [wrap_i64 (by omega) (by omega)]
      have e1 : IntKind.i64.wrap (IntKind.i64.wrap ((zz size - 1) / 2 ^ c.c0.toNat + 1 - 1) * P c) = ((zz size - 1) / P c) * P c := by
        show IntKind.i64.wrap (IntKind.i64.wrap ((zz size - 1) / P c + 1 - 1) * P c) = _
        rw [show (zz size - 1) / P c + 1 - 1 = (zz size - 1) / P c by omega, wrap_i64 (n := (zz size - 1) / P c) (by omega) (by omega), wrap_i64 (by omega) (by omega)]
      refine LdC_blk h6 rfl ?_
      refine Br_df (show ¬ IntKind.i64.wrap (((zz size - 1) / 2 ^ c.c0.toNat + 1) * P c) < zz size by rw [e0]; omega) ?_
      refine Br_dt (show zz size > 0 by omega) ?_
      refine LdC_blk h6 rfl ?_
      refine Br_df (show ¬ IntKind.i64.wrap (IntKind.i64.wrap ((zz size - 1) / 2 ^ c.c0.toNat + 1 - 1) * P c) ≥ zz size by rw [e1]; omega) ?_
      refine Br_df (show ¬ zz size = 0 by omega) ?_
      refine AnyC_ord [0, 1, 3, 4, 5, 6, 7, 1002, 8, 9, 10, 11, 12, 14, 15, 1013, 16, 17, 18] T_ok mixed (by kernel_rfl) (by kernel_rfl) ?_
      refine LdSN_blk (vs := geoL (c.c1 * P c) (P c) (Q c) c.c1 (c.c1 * P c / Q c) (min 1048576 (c.c1 * P c - P c))) h6 rfl rfl ?_
      refine LdS_blk h6 rfl ?_
      refine ⟨?_, trivial⟩
      refine CallC_intro (Big_spec _ _ _ _ _ _ (zz size) _) (fun v w7 ⟨hv, f7⟩ => ?_)
      subst hv
      have f67 := f7.drewL
      refine Sd_intro f67.old ?_
      have h7 := h6.keep f67 id
      have f := f.no f67
      have eb : (decide (zz size > P c / 2) == decide (IntKind.i64.wrap (2 * zz size) > P c)) = true := by
        rw [wrap_i64 (by omega) (by omega), beq_iff_eq]
        exact decide_eq_decide.2 (by omega)
      refine Br_t eb ?_
      refine LdSN_blk (vs := geoL (c.c1 * P c) (P c) (Q c) c.c1 (c.c1 * P c / Q c) (min 1048576 (c.c1 * P c - P c))) h6 rfl rfl ?_
      refine LdS_blk h6 rfl ?_
      refine LdS_blk h6 rfl ?_
      refine ⟨?_, trivial⟩
      refine CallC_intro (Span_spec _ _ _ _ _ (min 1048576 (c.c1 * P c - P c)) c.c0.toNat (by omega) (by omega) (by omega) w7) (fun v w8 ⟨hv, f8⟩ => ?_)
      rw [if_neg (by omega)] at hv
      subst hv
      refine Sd_intro (f67.no f8).old ?_
      refine ⟨?_, f.no f8⟩
      have hM : (min 1048576 (c.c1 * P c - P c) - 1) / 2 ^ c.c0.toNat + 1 < c.c1 := by
        have : (min 1048576 (c.c1 * P c - P c) - 1) / P c < c.c1 - 1 := Int.ediv_lt_of_lt_mul (by omega) (by rw [Int.sub_mul, Int.one_mul]; omega)
        show (min 1048576 (c.c1 * P c - P c) - 1) / P c + 1 < c.c1
        omega
      show Value.bool (decide ((min 1048576 (c.c1 * P c - P c) - 1) / 2 ^ c.c0.toNat + 1 < c.c1)) = _
      rw [decide_eq_true hM]
  · subst hv
    refine NewC_blk (fun p w4 hp h4 f4 _ => ?_)
    refine StN_blk h4 rfl (Nat.le_refl 6) (fun w5 h5 f5 _ => ?_)
    refine LdN_blk (vs := geoL 0 0 0 0 0 0) h5 rfl rfl ?_
    refine RunC_intro (v := .bool true) (w' := w5) (by kernel_rfl) ?_
    exact ⟨rfl, f13.no (f4.new f5 (fun _ _ e => e) (fun _ e => by omega))⟩
end Go.Proofs.Ytilhoimokegpjaa
