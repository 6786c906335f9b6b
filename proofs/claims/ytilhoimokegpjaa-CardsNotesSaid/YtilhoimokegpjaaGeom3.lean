/- Layer 2 (geom): New and what a geometry tells. -/
import Derived.Test.YtilhoimokegpjaaGeom2
namespace Go.Proofs.Ytilhoimokegpjaa
open Go.Vc

def P (c : Cfg) : Int := 2 ^ c.c0.toNat
def Q (c : Cfg) : Int := 2 ^ c.c2.toNat
def geoL (a0 a1 a2 a3 a4 a5 : Int) : List Value := [.int .i64 a0, .int .i64 a1, .int .i64 a2, .int .i64 a3, .int .i64 a4, .int .i64 a5]
def geoV (a0 a1 a2 a3 a4 a5 : Int) : Value := .agg (geoL a0 a1 a2 a3 a4 a5).toArray
def geoOf (c : Cfg) : Value := geoV (c.c1 * P c) (P c) (Q c) c.c1 (c.c1 * P c / Q c) (min 1048576 (c.c1 * P c - P c))
theorem Valid.cs {c : Cfg} (h : Valid c) : 3 ≤ c.c2 ∧ c.c2 ≤ c.c0 := h.ls 0 (c.c2, 3, c.c0) rfl
theorem P_le {c : Cfg} (h : Valid c) : 64 ≤ P c ∧ P c ≤ 1048576 ∧ 8 ≤ Q c ∧ Q c ≤ P c ∧ 2 * P c ≤ c.c1 * P c ∧ c.c1 * P c ≤ 4194304 := by
  have hs := h.s0
  have hs1 := h.s1
  have hc := h.cs
  have h1 : (2 : Int) ^ 6 ≤ 2 ^ c.c0.toNat := pow_le (by omega)
  have h2 : (2 : Int) ^ c.c0.toNat ≤ 2 ^ 20 := pow_le (by omega)
  have h3 : (2 : Int) ^ 3 ≤ 2 ^ c.c2.toNat := pow_le (by omega)
  have h4 : (2 : Int) ^ c.c2.toNat ≤ 2 ^ c.c0.toNat := pow_le (by omega)
  have h5 := h.r2
  have e6 : (2 : Int) ^ 6 = 64 := by decide
  have e20 : (2 : Int) ^ 20 = 1048576 := by decide
  have e3 : (2 : Int) ^ 3 = 8 := by decide
  unfold P Q
  generalize (2 : Int) ^ c.c0.toNat = p at *
  have h6 := Int.mul_le_mul_of_nonneg_right h5 (show 0 ≤ p by omega)
  have h7 := Int.ediv_mul_le 4194304 (show p ≠ 0 by omega)
  have h8 := Int.mul_le_mul_of_nonneg_right h.r0 (show 0 ≤ p by omega)
  omega
theorem geom_New_spec (c : Cfg) (w : World) : CallC Pr f_geom_New [cfgV c] w (fun v w' =>
    ((Valid c ∧ v = .tuple #[geoOf c, .int .i64 0]) ∨ (¬ Valid c ∧ v = .tuple #[geoV 0 0 0 0 0 0, .int .i64 20])) ∧ Fr No w w') := by
  refine call_sound T_ok fun_geom_New rfl (by kernel_rfl) rfl ?_
  refine NewC_blk (fun b w1 hb h1 f1 _ => ?_)
  have h1 : Blk w1 b t_api_Config (cfgL c) := h1
  refine NewC_blk (fun b2 w2 hb2 h2 f2 _ => ?_)
  have h1 := h1.keep f2 id
  refine LdN_blk (vs := cfgL c) h1 rfl rfl ?_
  refine CallC_intro (may_spec c w2) (fun v w3 ⟨ok, hv, hok, f3⟩ => ?_)
  subst hv
  have h1 := h1.keep f3 id
  have h2 := h2.keep f3 id
  have f13 := (f1.no f2).no f3
  have s1 := f1.size
  cases ok with
  | false =>
    refine StN_blk h2 rfl (Nat.le_refl 6) (fun w4 h4 f4 _ => ?_)
    refine LdN_blk (vs := geoL 0 0 0 0 0 0) h4 rfl rfl ?_
    exact ⟨.inr ⟨fun h => (by have := hok.2 h; cases this), rfl⟩, f13.new f4 (fun _ _ e => e) (fun k e => by omega)⟩
  | true =>
    have hV := hok.1 rfl
    have hs := hV.s0
    have hs1 := hV.s1
    have hc := hV.cs
    have hp := P_le hV
    have e0 : IntKind.u64.wrap c.c0 = c.c0 := wrap_u64 (by omega) (by omega)
    have e2 : IntKind.u64.wrap c.c2 = c.c2 := wrap_u64 (by omega) (by omega)
    have p0 : 0 ≤ IntKind.u64.wrap c.c0 := by rw [e0]; omega
    have p2 : 0 ≤ IntKind.u64.wrap c.c2 := by rw [e2]; omega
    refine LdC_blk h1 rfl ?_
    refine LdC_blk h1 rfl ?_
    refine Sd_intro p0 ?_
    refine LdC_blk h1 rfl ?_
    refine Sd_intro p0 ?_
    refine LdC_blk h1 rfl ?_
    refine Sd_intro p2 ?_
    refine LdC_blk h1 rfl ?_
    refine LdC_blk h1 rfl ?_
    refine Sd_intro p2 ?_
    refine LdC_blk h1 rfl ?_
    refine Sd_intro p0 ?_
    have u1 : shiftV .shl .i64 c.c1 (IntKind.u64.wrap c.c0).toNat = c.c1 * P c := by
      rw [e0, shl_i64 _ (by omega), wrap_i64]
      · rfl
      · show _ ≤ c.c1 * P c; omega
      · show c.c1 * P c ≤ _; omega
    have u2 : shiftV .shl .i64 1 (IntKind.u64.wrap c.c0).toNat = P c := by
      rw [e0, shl_i64 _ (by omega), Int.one_mul, wrap_i64]
      · rfl
      · show _ ≤ P c; omega
      · show P c ≤ _; omega
    have u3 : shiftV .shl .i64 1 (IntKind.u64.wrap c.c2).toNat = Q c := by
      rw [e2, shl_i64 _ (by omega), Int.one_mul, wrap_i64]
      · rfl
      · show _ ≤ Q c; omega
      · show Q c ≤ _; omega
    have u4 : shiftV .shr .i64 (c.c1 * P c) (IntKind.u64.wrap c.c2).toNat = c.c1 * P c / Q c := by
      rw [e2, shr_i64 _ (by omega)]; rfl
    have u5 : imin 1048576 (IntKind.i64.wrap (c.c1 * P c - P c)) = min 1048576 (c.c1 * P c - P c) := by
      rw [imin_eq, wrap_i64 (by omega) (by omega)]
    refine StN_blk h2 rfl (Nat.le_refl 6) (fun w4 h4 f4 _ => ?_)
    have h4 : Blk w4 b2 29 (geoL (shiftV .shl .i64 c.c1 (IntKind.u64.wrap c.c0).toNat) (shiftV .shl .i64 1 (IntKind.u64.wrap c.c0).toNat) (shiftV .shl .i64 1 (IntKind.u64.wrap c.c2).toNat) c.c1 (shiftV .shr .i64 (shiftV .shl .i64 c.c1 (IntKind.u64.wrap c.c0).toNat) (IntKind.u64.wrap c.c2).toNat) (imin 1048576 (IntKind.i64.wrap (shiftV .shl .i64 c.c1 (IntKind.u64.wrap c.c0).toNat - shiftV .shl .i64 1 (IntKind.u64.wrap c.c0).toNat)))) := h4
    rw [u1, u2, u3, u4, u5] at h4
    refine LdN_blk (vs := geoL (c.c1 * P c) (P c) (Q c) c.c1 (c.c1 * P c / Q c) (min 1048576 (c.c1 * P c - P c))) h4 rfl rfl ?_
    exact ⟨.inl ⟨hV, rfl⟩, f13.new f4 (fun _ _ e => e) (fun k e => by omega)⟩
theorem Big_spec (a0 a1 a2 a3 a4 a5 n : Int) (w : World) : CallC Pr f_geom_Geom_Big [geoV a0 a1 a2 a3 a4 a5, .int .i64 n] w (fun v w' => v = .bool (decide (n > a1 / 2)) ∧ Fr No w w') := by
  refine call_sound T_ok fun_geom_Geom_Big rfl (by kernel_rfl) rfl ?_
  refine NewC_blk (fun b w1 hb h1 f1 _ => ?_)
  refine LdC_blk h1 rfl ?_
  refine Sd_intro (by omega) ?_
  refine ⟨?_, f1⟩
  show Value.bool (decide (n > shiftV .shr .i64 a1 (1 : Int).toNat)) = _
  rw [shr_i64 _ (by decide)]
  rfl
theorem Span_spec (a0 a2 a3 a4 a5 n : Int) (k : Nat) (hk : k ≤ 20) (h0 : 0 ≤ n) (h1 : n ≤ 4194304) (w : World) :
    CallC Pr f_geom_Geom_Span [geoV a0 (2 ^ k) a2 a3 a4 a5, .int .i64 n] w (fun v w' => v = .int .i64 (if n < 1 then 0 else (n - 1) / 2 ^ k + 1) ∧ Fr No w w') := by
  refine call_sound T_ok fun_geom_Geom_Span rfl (by kernel_rfl) rfl ?_
  refine NewC_blk (fun b w1 hb h2 f1 _ => ?_)
  refine Br_dec (fun g => ?_) (fun g => ?_)
  · exact ⟨by rw [if_pos g]; rfl, f1⟩
  · refine LdC_blk h2 rfl ?_
    refine CallC_intro (log_spec k (by omega) w1) (fun v w2 ⟨hv, f2⟩ => ?_)
    subst hv
    refine Sd_intro (by omega) ?_
    refine ⟨?_, f1.no f2⟩
    rw [if_neg g]
    have g : ¬ n < 1 := g
    have hq : 0 ≤ (n - 1) / 2 ^ k := Int.ediv_nonneg (by omega) (Int.pow_nonneg (by omega))
    have hq2 := Int.ediv_le_self (a := n - 1) (2 ^ k) (by omega)
    show Value.int .i64 (IntKind.i64.wrap (shiftV .shr .i64 (IntKind.i64.wrap (n - 1)) ((k : Int)).toNat + 1)) = _
    rw [wrap_i64 (n := n - 1) (by omega) (by omega), Int.toNat_natCast, shr_i64 _ (by omega), wrap_i64 (by omega) (by omega)]
end Go.Proofs.Ytilhoimokegpjaa
