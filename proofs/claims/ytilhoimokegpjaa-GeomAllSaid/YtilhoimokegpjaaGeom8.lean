/- Layer 2 (geom): GeomPlaces. -/
import Derived.Test.YtilhoimokegpjaaGeom7
namespace Go.Proofs.Ytilhoimokegpjaa
open Go.Vc

def red (W a : Int) : Int := (IntKind.i64.wrap (Int.tmod a W + W)).tmod W
theorem red_bd (W a : Int) (h0 : 1 ≤ W) (h1 : W ≤ 4194304) : 0 ≤ red W a ∧ red W a < W := by
  unfold red
  have a1 := Int.tmod_lt_of_pos a (show (0 : Int) < W by omega)
  have a2 := Int.lt_tmod_of_pos a (show (0 : Int) < W by omega)
  rw [wrap_i64 (by omega) (by omega), tmod_eq (by omega)]
  exact ⟨Int.emod_nonneg _ (by omega), Int.emod_lt_of_pos _ (by omega)⟩
/-- Where a word lies. -/
structure Lies (W P Q r a : Int) : Prop where
  n0 : 0 ≤ a / P
  n1 : a / P < r
  b0 : a / P * P ≤ a
  b1 : a < a / P * P + P
  k0 : 0 ≤ a / Q
  k1 : a / Q < W / Q
  q0 : a / Q * Q ≤ a
  q1 : a < a / Q * Q + Q
  f0 : a / Q * Q / P = a / P
  f1 : (a / Q * Q + Q - 1) / P = a / P
  f2 : a / Q * Q + Q - 1 < W
  nq : W / Q * Q = W
theorem lies {P Q M r a : Int} (hP : P = Q * M) (hQ : 1 ≤ Q) (hM : 1 ≤ M) (h0 : 0 ≤ a) (h1 : a < r * P) : Lies (r * P) P Q r a := by
  have p0 : 0 < P := by rw [hP]; exact Int.mul_pos (by omega) (by omega)
  have eW : r * P = (r * M) * Q := by rw [hP, Int.mul_comm Q M, Int.mul_assoc]
  have eN : r * P / Q = r * M := by rw [eW, Int.mul_ediv_cancel _ (by omega)]
  have d1 := Int.ediv_mul_le a (show P ≠ 0 by omega)
  have d2 := Int.ediv_mul_le a (show Q ≠ 0 by omega)
  have m1 := Int.mul_ediv_add_emod a P
  have m2 := Int.emod_lt_of_pos a p0
  have m3 := Int.mul_ediv_add_emod a Q
  have m4 := Int.emod_lt_of_pos a (show 0 < Q by omega)
  have c1 := Int.mul_comm P (a / P)
  have c2 := Int.mul_comm Q (a / Q)
  have k1 : a / Q < r * M := Int.ediv_lt_of_lt_mul (by omega) (by rw [← eW]; exact h1)
  have eR : a / P = a / Q / M := by rw [hP, Int.ediv_ediv_of_nonneg (by omega)]
  have f0 : a / Q * Q / P = a / P := by rw [eR, hP, ← Int.ediv_ediv_of_nonneg (by omega), Int.mul_ediv_cancel _ (by omega)]
  have f1 : (a / Q * Q + Q - 1) / P = a / P := by
    have : (a / Q * Q + Q - 1) / Q = a / Q := by
      rw [show a / Q * Q + Q - 1 = (Q - 1) + a / Q * Q by omega, Int.add_mul_ediv_right _ _ (by omega), Int.ediv_eq_zero_of_lt (by omega) (by omega), Int.zero_add]
    rw [eR, hP, ← Int.ediv_ediv_of_nonneg (by omega), this]
  refine ⟨Int.ediv_nonneg h0 (by omega), Int.ediv_lt_of_lt_mul p0 h1, d1, by omega, Int.ediv_nonneg h0 (by omega), by rw [eN]; exact k1, d2, by omega, f0, f1, ?_, by rw [eN, ← eW]⟩
  have := Int.mul_le_mul_of_nonneg_right (show a / Q + 1 ≤ r * M by omega) (show 0 ≤ Q by omega)
  rw [Int.add_mul, Int.one_mul] at this
  omega
theorem P_split {c : Cfg} (h : Valid c) : P c = Q c * 2 ^ (c.c0.toNat - c.c2.toNat) := by
  have := h.cs
  exact pow_split (by omega)
theorem GeomPlaces_spec (c : Cfg) (a b : Int) (w : World) : CallC Pr f_gleanerlaw02_GeomPlaces [cfgV c, .int .i64 a, .int .i64 b] w (fun v w' => v = .bool true ∧ Fr No w w') := by
  refine call_sound T_ok fun_gleanerlaw02_GeomPlaces rfl (by kernel_rfl) rfl ?_
  refine NewC_blk (fun bk w1 hb h1 f1 _ => ?_)
  have h1 : Blk w1 bk t_api_Config (cfgL c) := h1
  refine CallC_intro (awake2_spec w1) (fun v w2 ⟨hv, f2⟩ => ?_)
  subst hv
  refine LdN_blk (vs := cfgL c) (h1.keep f2 id) rfl rfl ?_
  refine CallC_intro (geom_New_spec c w2) (fun v w3 ⟨hv, f3⟩ => ?_)
  have f13 := (f1.no f2).no f3
  rcases hv with ⟨hV, hv⟩ | ⟨hn, hv⟩
  · subst hv
    refine NewC_blk (fun p w4 hp h4 f4 _ => ?_)
    refine StN_blk h4 rfl (Nat.le_refl 6) (fun w5 h5 f5 _ => ?_)
    have h5 : Blk w5 p 29 (geoL (c.c1 * P c) (P c) (Q c) c.c1 (c.c1 * P c / Q c) (min 1048576 (c.c1 * P c - P c))) := h5
    have f := f13.no (f4.new f5 (fun _ _ e => e) (fun _ e => by omega))
    have hs := hV.s0
    have hs1 := hV.s1
    have hcs := hV.cs
    have hp := P_le hV
    have ha := red_bd (c.c1 * P c) a (by omega) (by omega)
    have hb := red_bd (c.c1 * P c) b (by omega) (by omega)
    have L := lies (P_split hV) (by omega) (pow_pos2 _) ha.1 ha.2
    have hA : CallC Pr f_geom_Geom_Region [geoOf c, .int .i64 0] w5 (fun _ _ => True) → True := fun _ => trivial
    clear hA
    refine AnyC_lex T_ok mixed (by kernel_rfl) (by kernel_rfl) ?_
    refine LdS_blk h5 rfl ?_
    refine Sd_intro (by omega) ?_
    refine LdS_blk h5 rfl ?_
    refine LdS_blk h5 rfl ?_
    refine Sd_intro (by omega) ?_
    have f5' := Fr.drew w5
    have h6 := h5.keep f5' id
    have f := f.no f5'
    refine AnyC_lex T_ok mixed (by kernel_rfl) (by kernel_rfl) ?_
    refine LdS_blk h6 rfl ?_
    refine Sd_intro (by omega) ?_
    refine LdS_blk h6 rfl ?_
    refine LdS_blk h6 rfl ?_
    refine Sd_intro (by omega) ?_
    have f6' := Fr.drew w5.drew
    have h7 := h6.keep f6' id
    have f := f.no f6'
    have B1 := fun w => Region_spec (c.c1 * P c) (Q c) c.c1 (c.c1 * P c / Q c) (min 1048576 (c.c1 * P c - P c)) (red (c.c1 * P c) a) c.c0.toNat (by omega) w
    have B2 := fun w => Card_spec (c.c1 * P c) (P c) c.c1 (c.c1 * P c / Q c) (min 1048576 (c.c1 * P c - P c)) (red (c.c1 * P c) a) c.c2.toNat (by omega) w
    have B3 := fun w => Base_spec (c.c1 * P c) (Q c) c.c1 (c.c1 * P c / Q c) (min 1048576 (c.c1 * P c - P c)) (red (c.c1 * P c) a / P c) c.c0.toNat (by omega) (by show c.c1 * P c ≤ _; omega) w
    have B4 := fun w => First_spec (c.c1 * P c) (P c) c.c1 (c.c1 * P c / Q c) (min 1048576 (c.c1 * P c - P c)) (red (c.c1 * P c) a / Q c) c.c2.toNat (by omega) (by show c.c1 * P c / Q c * Q c ≤ _; rw [L.nq]; omega) w
    simp only [if_neg (show ¬ (red (c.c1 * P c) a < 0 ∨ c.c1 * P c ≤ red (c.c1 * P c) a) by omega)] at B1 B2
    simp only [if_neg (show ¬ (red (c.c1 * P c) a / P c < 0 ∨ c.c1 ≤ red (c.c1 * P c) a / P c) by have := L.n0; have := L.n1; omega)] at B3
    simp only [if_neg (show ¬ (red (c.c1 * P c) a / Q c < 0 ∨ c.c1 * P c / Q c ≤ red (c.c1 * P c) a / Q c) by have := L.k0; have := L.k1; omega)] at B4
    refine LdN_blk (vs := geoL (c.c1 * P c) (P c) (Q c) c.c1 (c.c1 * P c / Q c) (min 1048576 (c.c1 * P c - P c))) h7 rfl rfl ?_
    refine CallC_intro (B1 _) (fun v w8 ⟨hv, f8⟩ => ?_)
    subst hv
    have h8 := h7.keep f8 id
    have f := f.no f8
    refine LdN_blk (vs := geoL (c.c1 * P c) (P c) (Q c) c.c1 (c.c1 * P c / Q c) (min 1048576 (c.c1 * P c - P c))) h8 rfl rfl ?_
    refine CallC_intro (B2 _) (fun v w9 ⟨hv, f9⟩ => ?_)
    subst hv
    have h9 := h8.keep f9 id
    have f := f.no f9
    refine LdN_blk (vs := geoL (c.c1 * P c) (P c) (Q c) c.c1 (c.c1 * P c / Q c) (min 1048576 (c.c1 * P c - P c))) h9 rfl rfl ?_
    refine CallC_intro (B3 _) (fun v w10 ⟨hv, f10⟩ => ?_)
    subst hv
    have h10 := h9.keep f10 id
    have f := f.no f10
    refine LdN_blk (vs := geoL (c.c1 * P c) (P c) (Q c) c.c1 (c.c1 * P c / Q c) (min 1048576 (c.c1 * P c - P c))) h10 rfl rfl ?_
    refine CallC_intro (B4 _) (fun v w11 ⟨hv, f11⟩ => ?_)
    subst hv
    have h11 := h10.keep f11 id
    have f := f.no f11
    obtain ⟨n0, n1, b0, b1, k0, k1, q0, q1, l0, l1, l2, nq⟩ := L
    refine Br_df (show ¬ red (c.c1 * P c) a < red (c.c1 * P c) a / P c * P c by omega) ?_
    refine LdC_blk h11 rfl ?_
    refine Br_df (show ¬ red (c.c1 * P c) a ≥ IntKind.i64.wrap (red (c.c1 * P c) a / P c * P c + P c) by rw [wrap_i64 (by omega) (by omega)]; omega) ?_
    refine Br_df (show ¬ red (c.c1 * P c) a < red (c.c1 * P c) a / Q c * Q c by omega) ?_
    refine LdC_blk h11 rfl ?_
    refine Br_df (show ¬ red (c.c1 * P c) a ≥ IntKind.i64.wrap (red (c.c1 * P c) a / Q c * Q c + Q c) by rw [wrap_i64 (by omega) (by omega)]; omega) ?_
    have B5 := fun w => Region_spec (c.c1 * P c) (Q c) c.c1 (c.c1 * P c / Q c) (min 1048576 (c.c1 * P c - P c)) (red (c.c1 * P c) a / Q c * Q c) c.c0.toNat (by omega) w
    have B6 := fun w => Region_spec (c.c1 * P c) (Q c) c.c1 (c.c1 * P c / Q c) (min 1048576 (c.c1 * P c - P c)) (red (c.c1 * P c) a / Q c * Q c + Q c - 1) c.c0.toNat (by omega) w
    have B7 := fun w => Region_spec (c.c1 * P c) (Q c) c.c1 (c.c1 * P c / Q c) (min 1048576 (c.c1 * P c - P c)) (red (c.c1 * P c) b) c.c0.toNat (by omega) w
    have B8 := fun w => Cross_spec (c.c1 * P c) (Q c) c.c1 (c.c1 * P c / Q c) (min 1048576 (c.c1 * P c - P c)) (red (c.c1 * P c) a) (red (c.c1 * P c) b) c.c0.toNat (by omega) (by omega) w
    have B9 := fun w => Cross_spec (c.c1 * P c) (Q c) c.c1 (c.c1 * P c / Q c) (min 1048576 (c.c1 * P c - P c)) (red (c.c1 * P c) b) (red (c.c1 * P c) a) c.c0.toNat (by omega) (by omega) w
    have kq0 : 0 ≤ red (c.c1 * P c) a / Q c * Q c := Int.mul_nonneg k0 (by omega)
    simp only [if_neg (show ¬ (red (c.c1 * P c) a / Q c * Q c < 0 ∨ c.c1 * P c ≤ red (c.c1 * P c) a / Q c * Q c) by omega)] at B5
    simp only [if_neg (show ¬ (red (c.c1 * P c) a / Q c * Q c + Q c - 1 < 0 ∨ c.c1 * P c ≤ red (c.c1 * P c) a / Q c * Q c + Q c - 1) by omega)] at B6
    simp only [if_neg (show ¬ (red (c.c1 * P c) b < 0 ∨ c.c1 * P c ≤ red (c.c1 * P c) b) by omega)] at B7
    refine LdN_blk (vs := geoL (c.c1 * P c) (P c) (Q c) c.c1 (c.c1 * P c / Q c) (min 1048576 (c.c1 * P c - P c))) h11 rfl rfl ?_
    refine CallC_intro (B5 _) (fun v w12 ⟨hv, f12⟩ => ?_)
    subst hv
    have h12 := h11.keep f12 id
    have f := f.no f12
    refine Br_nf (show red (c.c1 * P c) a / Q c * Q c / P c = red (c.c1 * P c) a / P c from l0) ?_
    refine LdN_blk (vs := geoL (c.c1 * P c) (P c) (Q c) c.c1 (c.c1 * P c / Q c) (min 1048576 (c.c1 * P c - P c))) h12 rfl rfl ?_
    refine LdC_blk h12 rfl ?_
    have eq1 : IntKind.i64.wrap (IntKind.i64.wrap (red (c.c1 * P c) a / Q c * Q c + Q c) - 1) = red (c.c1 * P c) a / Q c * Q c + Q c - 1 := by
      rw [wrap_i64 (n := red (c.c1 * P c) a / Q c * Q c + Q c) (by omega) (by omega), wrap_i64 (by omega) (by omega)]
    have B6' : ∀ w j, j = red (c.c1 * P c) a / Q c * Q c + Q c - 1 → CallC Pr f_geom_Geom_Region [geoV (c.c1 * P c) (2 ^ c.c0.toNat) (Q c) c.c1 (c.c1 * P c / Q c) (min 1048576 (c.c1 * P c - P c)), .int .i64 j] w (fun v w' => v = .int .i64 ((red (c.c1 * P c) a / Q c * Q c + Q c - 1) / 2 ^ c.c0.toNat) ∧ Fr No w w') := fun w j e => by subst e; exact B6 w
    refine CallC_intro (B6' _ _ eq1) (fun v w13 ⟨hv, f13'⟩ => ?_)
    subst hv
    have h13 := h12.keep f13' id
    have f := f.no f13'
    refine Br_nf (show (red (c.c1 * P c) a / Q c * Q c + Q c - 1) / P c = red (c.c1 * P c) a / P c from l1) ?_
    refine AnyC_ord [0, 1, 2, 4, 5, 7, 1003, 1006, 8, 9, 10, 11, 12, 13, 15, 16, 17, 1014, 1018, 19, 20, 21, 22, 23, 24, 25, 26, 27, 28, 29, 30, 31, 32, 33, 34, 35, 36, 37, 38, 39, 40, 41] T_ok mixed (by kernel_rfl) (by kernel_rfl) ?_
    refine LdSN_blk (vs := geoL (c.c1 * P c) (P c) (Q c) c.c1 (c.c1 * P c / Q c) (min 1048576 (c.c1 * P c - P c))) h13 rfl rfl ?_
    refine LdSN_blk (vs := geoL (c.c1 * P c) (P c) (Q c) c.c1 (c.c1 * P c / Q c) (min 1048576 (c.c1 * P c - P c))) h13 rfl rfl ?_
    refine ⟨?_, trivial⟩
    refine CallC_intro (B8 _) (fun v w14 ⟨hv, f14⟩ => ?_)
    subst hv
    have f14 := f14.drewL
    refine Sd_intro f14.old ?_
    refine ⟨?_, trivial⟩
    refine CallC_intro (B7 _) (fun v w15 ⟨hv, f15⟩ => ?_)
    subst hv
    have f15 := f14.no f15
    refine Sd_intro f15.old ?_
    have eb : (decide ((0 ≤ red (c.c1 * P c) a ∧ red (c.c1 * P c) a < c.c1 * P c) ∧ (0 ≤ red (c.c1 * P c) b ∧ red (c.c1 * P c) b < c.c1 * P c) ∧ red (c.c1 * P c) a / P c ≠ red (c.c1 * P c) b / P c) == !decide (red (c.c1 * P c) b / P c = red (c.c1 * P c) a / P c)) = true := by
      rw [beq_iff_eq, ← decide_not]
      exact decide_eq_decide.2 ⟨fun h e => h.2.2 e.symm, fun h => ⟨ha, hb, fun e => h e.symm⟩⟩
    refine Br_t eb ?_
    refine LdSN_blk (vs := geoL (c.c1 * P c) (P c) (Q c) c.c1 (c.c1 * P c / Q c) (min 1048576 (c.c1 * P c - P c))) h13 rfl rfl ?_
    refine LdSN_blk (vs := geoL (c.c1 * P c) (P c) (Q c) c.c1 (c.c1 * P c / Q c) (min 1048576 (c.c1 * P c - P c))) h13 rfl rfl ?_
    refine ⟨?_, trivial⟩
    refine CallC_intro (B8 _) (fun v w16 ⟨hv, f16⟩ => ?_)
    subst hv
    have f16 := f15.no f16
    refine Sd_intro f16.old ?_
    refine ⟨?_, trivial⟩
    refine CallC_intro (B9 _) (fun v w17 ⟨hv, f17⟩ => ?_)
    subst hv
    have f17 := f16.no f17
    refine Sd_intro f17.old ?_
    have eb2 : (decide ((0 ≤ red (c.c1 * P c) a ∧ red (c.c1 * P c) a < c.c1 * P c) ∧ (0 ≤ red (c.c1 * P c) b ∧ red (c.c1 * P c) b < c.c1 * P c) ∧ red (c.c1 * P c) a / P c ≠ red (c.c1 * P c) b / P c) == decide ((0 ≤ red (c.c1 * P c) b ∧ red (c.c1 * P c) b < c.c1 * P c) ∧ (0 ≤ red (c.c1 * P c) a ∧ red (c.c1 * P c) a < c.c1 * P c) ∧ red (c.c1 * P c) b / P c ≠ red (c.c1 * P c) a / P c)) = true := by
      rw [beq_iff_eq]
      exact decide_eq_decide.2 ⟨fun h => ⟨hb, ha, fun e => h.2.2 e.symm⟩, fun h => ⟨ha, hb, fun e => h.2.2 e.symm⟩⟩
    refine Br_t eb2 ?_
    refine LdS_blk h13 rfl ?_
    refine LdS_blk h13 rfl ?_
    refine LdS_blk h13 rfl ?_
    refine Br_dt (show IntKind.i64.wrap (c.c1 * P c) = c.c1 * P c from wrap_i64 (by omega) (by omega)) ?_
    refine LdS_blk h13 rfl ?_
    refine LdS_blk h13 rfl ?_
    refine LdS_blk h13 rfl ?_
    have e9 : IntKind.i64.wrap (c.c1 * P c / Q c * Q c) = c.c1 * P c := by rw [nq]; exact wrap_i64 (by omega) (by omega)
    refine ⟨?_, f.no f17⟩
    show Value.bool (decide (IntKind.i64.wrap (c.c1 * P c / Q c * Q c) = c.c1 * P c)) = _
    rw [decide_eq_true e9]
  · subst hv
    refine NewC_blk (fun p w4 hp h4 f4 _ => ?_)
    refine StN_blk h4 rfl (Nat.le_refl 6) (fun w5 h5 f5 _ => ?_)
    refine LdN_blk (vs := geoL 0 0 0 0 0 0) h5 rfl rfl ?_
    refine RunC_intro (v := .bool true) (w' := w5) (by kernel_rfl) ?_
    exact ⟨rfl, f13.no (f4.new f5 (fun _ _ e => e) (fun _ e => by omega))⟩
end Go.Proofs.Ytilhoimokegpjaa
