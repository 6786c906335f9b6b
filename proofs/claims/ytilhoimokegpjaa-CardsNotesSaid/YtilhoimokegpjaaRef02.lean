/- The document's answer for layer 2. -/
import Derived.Test.YtilhoimokegpjaaGeom5
namespace Go.Proofs.Ytilhoimokegpjaa
open Go.Vc

theorem in_spec (n a b : Int) (w : World) : CallC Pr f_gleanerref02_in [.int .i64 n, .int .i64 a, .int .i64 b] w (fun v w' => v = .bool (decide (a ≤ n ∧ n ≤ b)) ∧ Fr No w w') := by
  refine call_sound T_ok fun_gleanerref02_in rfl (by kernel_rfl) rfl ?_
  refine Br_dec (fun h0 => ?_) (fun h0 => ?_)
  · refine ⟨?_, Fr.refl _ _⟩
    show Value.bool (decide (n ≤ b)) = _
    congr 1
    exact decide_eq_decide.2 ⟨fun h => ⟨h0, h⟩, fun h => h.2⟩
  · refine ⟨?_, Fr.refl _ _⟩
    show Value.bool false = _
    rw [decide_eq_false (fun h => h0 h.1)]
theorem power_spec (n : Int) (h0 : 0 ≤ n) (h1 : n ≤ 40) (w : World) : CallC Pr f_gleanerref02_power [.int .i64 n] w (fun v w' => v = .int .i64 (2 ^ n.toNat) ∧ Fr No w w') := by
  refine call_sound T_ok fun_gleanerref02_power rfl (by kernel_rfl) rfl ?_
  refine LoopC_intro (α := Int × Int) (fun x => [(0, .int .i64 n), (3, .int .i64 x.2), (4, .int .i64 x.1)]) (fun m x w1 => Fr No w w1 ∧ 0 ≤ x.1 ∧ x.1 ≤ n ∧ x.2 = 2 ^ x.1.toNat ∧ m = (n - x.1).toNat)
    (n - 0 : Int).toNat (0, 1) ⟨rfl, rfl, rfl, trivial⟩ ⟨Fr.refl _ _, (show (0 : Int) ≤ 0 by omega), (show (0 : Int) ≤ n by omega), rfl, rfl⟩ ?_
  rintro m ⟨i, q⟩ w1 ⟨hF, i0, i1, hq, hm⟩
  have i0 : 0 ≤ i := i0
  have i1 : i ≤ n := i1
  have hq : q = 2 ^ i.toNat := hq
  have hm : m = (n - i).toNat := hm
  refine Br_dec (fun g => ?_) (fun g => ?_)
  · have g : i < n := g
    have ei : IntKind.i64.wrap (i + 1) = i + 1 := wrap_i64 (by omega) (by omega)
    have hb : (2 : Int) ^ i.toNat ≤ 2 ^ 40 := pow_le (by omega)
    have e40 : (2 : Int) ^ 40 = 1099511627776 := by decide
    have hp := pow_pos2 i.toNat
    have eq : IntKind.i64.wrap (2 * q) = 2 * q := wrap_i64 (by omega) (by omega)
    refine ⟨(n - (i + 1)).toNat, _, by omega, ?_, (i + 1, 2 * q), rfl, hF, (show 0 ≤ i + 1 by omega), (show i + 1 ≤ n by omega), ?_, rfl⟩
    · exact ⟨rfl, look_int rfl eq, look_int rfl ei, trivial⟩
    · show 2 * q = 2 ^ (i + 1).toNat
      rw [show (i + 1).toNat = i.toNat + 1 by omega, Int.pow_succ, hq]; omega
  · have g : ¬ i < n := g
    have : i = n := by omega
    subst this
    refine ⟨?_, hF⟩
    show Value.int .i64 q = _
    rw [hq]
theorem RBig_spec (a0 a1 a2 a3 a4 a5 n : Int) (h : 0 ≤ a1) (h1 : a1 ≤ 4194304) (w : World) : CallC Pr f_gleanerref02_Geom_Big [geoV a0 a1 a2 a3 a4 a5, .int .i64 n] w (fun v w' => v = .bool (decide (n > a1 / 2)) ∧ Fr No w w') := by
  refine call_sound T_ok fun_gleanerref02_Geom_Big rfl (by kernel_rfl) rfl ?_
  refine NewC_blk (fun b w1 hb h2 f1 _ => ?_)
  refine LdC_blk h2 rfl ?_
  refine Sd_intro (by omega) ?_
  refine ⟨?_, f1⟩
  show Value.bool (decide (n > IntKind.i64.wrap (a1.tdiv 2))) = _
  rw [tdiv_eq h, wrap_i64 (by omega) (by omega)]
theorem RSpan_spec (a0 a1 a2 a3 a4 a5 n : Int) (h : 1 ≤ a1) (hn : -9223372036854775808 ≤ n ∧ n ≤ 9223372036854775807) (w : World) :
    CallC Pr f_gleanerref02_Geom_Span [geoV a0 a1 a2 a3 a4 a5, .int .i64 n] w (fun v w' => v = .int .i64 (if n < 1 then 0 else IntKind.i64.wrap ((n - 1) / a1 + 1)) ∧ Fr No w w') := by
  refine call_sound T_ok fun_gleanerref02_Geom_Span rfl (by kernel_rfl) rfl ?_
  refine NewC_blk (fun b w1 hb h2 f1 _ => ?_)
  refine Br_dec (fun g => ?_) (fun g => ?_)
  · exact ⟨by rw [if_pos g]; rfl, f1⟩
  · refine LdC_blk h2 rfl ?_
    refine Sd_intro (by omega) ?_
    refine ⟨?_, f1⟩
    rw [if_neg g]
    have g : ¬ n < 1 := g
    have q0 : 0 ≤ (n - 1) / a1 := Int.ediv_nonneg (by omega) (by omega)
    have q1 := Int.ediv_le_self (a := n - 1) a1 (by omega)
    show Value.int .i64 (IntKind.i64.wrap (IntKind.i64.wrap ((IntKind.i64.wrap (n - 1)).tdiv a1) + 1)) = _
    rw [wrap_i64 (n := n - 1) (by omega) (by omega), tdiv_eq (by omega), wrap_i64 (n := (n - 1) / a1) (by omega) (by omega)]
theorem RRegion_spec (a0 a1 a2 a3 a4 a5 n : Int) (h0 : 1 ≤ a0) (h01 : a0 ≤ 4194304) (h : 1 ≤ a1) (w : World) :
    CallC Pr f_gleanerref02_Geom_Region [geoV a0 a1 a2 a3 a4 a5, .int .i64 n] w (fun v w' => v = .int .i64 (if n < 0 ∨ a0 ≤ n then -1 else n / a1) ∧ Fr No w w') := by
  refine call_sound T_ok fun_gleanerref02_Geom_Region rfl (by kernel_rfl) rfl ?_
  refine NewC_blk (fun b w1 hb h2 f1 _ => ?_)
  refine LdC_blk h2 rfl ?_
  refine CallC_intro (in_spec n 0 _ w1) (fun v w2 ⟨hv, f2⟩ => ?_)
  subst hv
  have ew : IntKind.i64.wrap (a0 - 1) = a0 - 1 := wrap_i64 (by omega) (by omega)
  refine Br_ndec (fun g => ?_) (fun g => ?_)
  · have g : ¬ (0 ≤ n ∧ n ≤ IntKind.i64.wrap (a0 - 1)) := g
    rw [ew] at g
    exact ⟨by rw [if_pos (by omega)]; rfl, f1.no f2⟩
  · have g : 0 ≤ n ∧ n ≤ IntKind.i64.wrap (a0 - 1) := g
    rw [ew] at g
    refine LdC_blk (h2.keep f2 id) rfl ?_
    refine Sd_intro (by omega) ?_
    refine ⟨?_, f1.no f2⟩
    rw [if_neg (by omega)]
    have q0 : 0 ≤ n / a1 := Int.ediv_nonneg (by omega) (by omega)
    have q1 := Int.ediv_le_self (a := n) a1 (by omega)
    show Value.int .i64 (IntKind.i64.wrap (n.tdiv a1)) = _
    rw [tdiv_eq (by omega), wrap_i64 (by omega) (by omega)]
theorem RCard_spec (a0 a1 a2 a3 a4 a5 n : Int) (h0 : 1 ≤ a0) (h01 : a0 ≤ 4194304) (h : 1 ≤ a2) (w : World) :
    CallC Pr f_gleanerref02_Geom_Card [geoV a0 a1 a2 a3 a4 a5, .int .i64 n] w (fun v w' => v = .int .i64 (if n < 0 ∨ a0 ≤ n then -1 else n / a2) ∧ Fr No w w') := by
  refine call_sound T_ok fun_gleanerref02_Geom_Card rfl (by kernel_rfl) rfl ?_
  refine NewC_blk (fun b w1 hb h2 f1 _ => ?_)
  refine LdC_blk h2 rfl ?_
  refine CallC_intro (in_spec n 0 _ w1) (fun v w2 ⟨hv, f2⟩ => ?_)
  subst hv
  have ew : IntKind.i64.wrap (a0 - 1) = a0 - 1 := wrap_i64 (by omega) (by omega)
  refine Br_ndec (fun g => ?_) (fun g => ?_)
  · have g : ¬ (0 ≤ n ∧ n ≤ IntKind.i64.wrap (a0 - 1)) := g
    rw [ew] at g
    exact ⟨by rw [if_pos (by omega)]; rfl, f1.no f2⟩
  · have g : 0 ≤ n ∧ n ≤ IntKind.i64.wrap (a0 - 1) := g
    rw [ew] at g
    refine LdC_blk (h2.keep f2 id) rfl ?_
    refine Sd_intro (by omega) ?_
    refine ⟨?_, f1.no f2⟩
    rw [if_neg (by omega)]
    have q0 : 0 ≤ n / a2 := Int.ediv_nonneg (by omega) (by omega)
    have q1 := Int.ediv_le_self (a := n) a2 (by omega)
    show Value.int .i64 (IntKind.i64.wrap (n.tdiv a2)) = _
    rw [tdiv_eq (by omega), wrap_i64 (by omega) (by omega)]
end Go.Proofs.Ytilhoimokegpjaa
