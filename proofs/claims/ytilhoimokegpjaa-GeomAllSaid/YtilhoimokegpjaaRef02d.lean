/- The document's answer for layer 2: New. -/
import Derived.Test.YtilhoimokegpjaaRef02c
namespace Go.Proofs.Ytilhoimokegpjaa
open Go.Vc

def newPlan : Plan := .take 0 (.take 1 (.take 3 (.take 4 (.take 6 (.take 7
  (.alt 2 (.alt 5 (.take 8 (.alt 9 (.alt 10 .done .stop) .stop)) (.alt 9 (.alt 5 (.take 8 (.alt 10 .done .stop)) .stop) .stop))
    (.alt 9 (.alt 2 (.alt 5 (.take 8 (.alt 10 .done .stop)) .stop) .stop) .stop)))))))
theorem RNew_spec (c : Cfg) (w : World) : CallC Pr f_gleanerref02_New [cfgV c] w (fun v w' =>
    ((Valid c ∧ v = .tuple #[geoOf c, .int .i64 0]) ∨ (¬ Valid c ∧ v = .tuple #[geoV 0 0 0 0 0 0, .int .i64 20])) ∧ Fr No w w') := by
  refine call_sound T_ok fun_gleanerref02_New rfl (by kernel_rfl) rfl ?_
  refine NewC_blk (fun b w1 hb h1 f1 _ => ?_)
  have h1 : Blk w1 b t_api_Config (cfgL c) := h1
  refine NewC_blk (fun b2 w2 hb2 h2 f2 _ => ?_)
  have h1 := h1.keep f2 id
  refine LdN_blk (vs := cfgL c) h1 rfl rfl ?_
  refine CallC_intro (RMay_spec c w2) (fun v w3 ⟨ok, hv, hok, f3⟩ => ?_)
  subst hv
  have h1 := h1.keep f3 id
  have h2 := h2.keep f3 id
  have f13 := (f1.no f2).no f3
  have s1 := f1.size
  cases ok with
  | false =>
    refine StN_blk h2 rfl (Nat.le_refl 6) (fun w4 h4 f4 _ => ?_)
    refine LdN_blk (vs := geoL 0 0 0 0 0 0) h4 rfl rfl ?_
    exact ⟨.inr ⟨fun h => (by have := hok.2 h; cases this), rfl⟩, f13.new f4 (fun _ _ e => e) (fun k e => by omega)⟩
  | true =>
    have hV := hok.1 rfl
    have hs := hV.s0
    have hs1 := hV.s1
    have hc := hV.cs
    have hp := P_le hV
    refine AnyC_plan T_ok mixed newPlan (Old w3) (by kernel_rfl) (by kernel_rfl) (fun _ _ => rfl) ?_
    refine LdS_blk h1 rfl ?_
    refine LdS_blk h1 rfl ?_
    refine LdS_blk h1 rfl ?_
    have c0 := fun w => power_spec c.c0 (by omega) (by omega) w
    have c2 := fun w => power_spec c.c2 (by omega) (by omega) w
    refine ⟨?_, ?_, trivial⟩
    · refine CallC_intro (c0 _) (fun v w4 ⟨hv, f4⟩ => ?_)
      subst hv
      have f4 := f4.drewL
      refine Sd_intro f4.old ?_
      refine ⟨?_, ?_, trivial⟩
      · refine CallC_intro (c2 _) (fun v w5 ⟨hv, f5⟩ => ?_)
        subst hv
        have f5 := f4.no f5
        refine Sd_intro f5.old ?_
        refine ⟨?_, trivial⟩
        refine NewC_blk (fun b4 w6 hb4 h6 f6 _ => ?_)
        have f6 := f5.no f6
        refine Sd_intro f6.old ?_
        refine ⟨?_, trivial⟩
        have gb : w3.heap.size ≤ b4 := by first | (have := f4.size; have e : b4 = w4.heap.size := hb4; omega) | (have := f5.size; have e : b4 = w5.heap.size := hb4; omega) | (have e : b4 = w3.heap.size := hb4; omega)
        have gb2 : b2 < w3.heap.size := h2.lt
        refine StN_blk h6 rfl (Nat.le_refl 6) (fun w7 h7 f7 _ => ?_)
        have h7 : Blk w7 b4 46 (geoL 0 (P c) (Q c) c.c1 0 0) := h7
        have f7 := f6.new f7 (fun _ _ e => e) (fun k e => by have e : k = b4 := e; omega)
        refine LdC_blk h7 rfl ?_
        refine LdC_blk h7 rfl ?_
        refine StC_blk h7 rfl (u := .int .i64 0) rfl (fun w8 h8 f8 _ => ?_)
        have h8 : Blk w8 b4 46 (geoL (IntKind.i64.wrap (c.c1 * P c)) (P c) (Q c) c.c1 0 0) := h8
        rw [wrap_i64 (by omega) (by omega)] at h8
        have f8 := f7.new f8 (fun _ _ e => e) (fun k e => by have e : k = b4 := e; omega)
        refine LdC_blk h8 rfl ?_
        refine LdC_blk h8 rfl ?_
        refine Sd_intro (show Q c ≠ 0 by omega) ?_
        refine StC_blk h8 rfl (u := .int .i64 0) rfl (fun w9 h9 f9 _ => ?_)
        have h9 : Blk w9 b4 46 (geoL (c.c1 * P c) (P c) (Q c) c.c1 (IntKind.i64.wrap (Int.tdiv (c.c1 * P c) (Q c))) 0) := h9
        have d0 : 0 ≤ c.c1 * P c / Q c := Int.ediv_nonneg (by omega) (by omega)
        have d1 := Int.ediv_le_self (a := c.c1 * P c) (Q c) (by omega)
        rw [tdiv_eq (by omega), wrap_i64 (by omega) (by omega)] at h9
        have f9 := f8.new f9 (fun _ _ e => e) (fun k e => by have e : k = b4 := e; omega)
        refine LdC_blk h9 rfl ?_
        refine LdC_blk h9 rfl ?_
        refine StC_blk h9 rfl (u := .int .i64 0) rfl (fun w10 h10 f10 _ => ?_)
        have r0 := hV.r0
        have r1 := hV.r1
        have h10 : Blk w10 b4 46 (geoL (c.c1 * P c) (P c) (Q c) c.c1 (c.c1 * P c / Q c) (imin 1048576 (IntKind.i64.wrap (IntKind.i64.wrap (c.c1 - 1) * P c)))) := h10
        have em : (c.c1 - 1) * P c = c.c1 * P c - P c := by rw [Int.sub_mul, Int.one_mul]
        rw [imin_eq, wrap_i64 (n := c.c1 - 1) (by omega) (by omega), em, wrap_i64 (by omega) (by omega)] at h10
        have f10 := f9.new f10 (fun _ _ e => e) (fun k e => by have e : k = b4 := e; omega)
        refine LdN_blk (vs := geoL (c.c1 * P c) (P c) (Q c) c.c1 (c.c1 * P c / Q c) (min 1048576 (c.c1 * P c - P c))) h10 rfl rfl ?_
        refine StN_blk (h2.keep f10 id) rfl (Nat.le_refl 6) (fun w11 h11 f11 _ => ?_)
        refine LdN_blk (vs := geoL (c.c1 * P c) (P c) (Q c) c.c1 (c.c1 * P c / Q c) (min 1048576 (c.c1 * P c - P c))) h11 rfl rfl ?_
        exact ⟨.inl ⟨hV, rfl⟩, (f13.no f10).new f11 (fun _ _ e => e) (fun k e => by have e : k = b2 := e; omega)⟩
      · refine NewC_blk (fun b4 w5 hb4 h6 f5 _ => ?_)
        have f5 := f4.no f5
        refine Sd_intro f5.old ?_
        refine ⟨?_, trivial⟩
        refine CallC_intro (c2 _) (fun v w6 ⟨hv, f6⟩ => ?_)
        subst hv
        have h6 := h6.keep f6 id
        have f6 := f5.no f6
        refine Sd_intro f6.old ?_
        refine ⟨?_, trivial⟩
        have gb : w3.heap.size ≤ b4 := by first | (have := f4.size; have e : b4 = w4.heap.size := hb4; omega) | (have := f5.size; have e : b4 = w5.heap.size := hb4; omega) | (have e : b4 = w3.heap.size := hb4; omega)
        have gb2 : b2 < w3.heap.size := h2.lt
        refine StN_blk h6 rfl (Nat.le_refl 6) (fun w7 h7 f7 _ => ?_)
        have h7 : Blk w7 b4 46 (geoL 0 (P c) (Q c) c.c1 0 0) := h7
        have f7 := f6.new f7 (fun _ _ e => e) (fun k e => by have e : k = b4 := e; omega)
        refine LdC_blk h7 rfl ?_
        refine LdC_blk h7 rfl ?_
        refine StC_blk h7 rfl (u := .int .i64 0) rfl (fun w8 h8 f8 _ => ?_)
        have h8 : Blk w8 b4 46 (geoL (IntKind.i64.wrap (c.c1 * P c)) (P c) (Q c) c.c1 0 0) := h8
        rw [wrap_i64 (by omega) (by omega)] at h8
        have f8 := f7.new f8 (fun _ _ e => e) (fun k e => by have e : k = b4 := e; omega)
        refine LdC_blk h8 rfl ?_
        refine LdC_blk h8 rfl ?_
        refine Sd_intro (show Q c ≠ 0 by omega) ?_
        refine StC_blk h8 rfl (u := .int .i64 0) rfl (fun w9 h9 f9 _ => ?_)
        have h9 : Blk w9 b4 46 (geoL (c.c1 * P c) (P c) (Q c) c.c1 (IntKind.i64.wrap (Int.tdiv (c.c1 * P c) (Q c))) 0) := h9
        have d0 : 0 ≤ c.c1 * P c / Q c := Int.ediv_nonneg (by omega) (by omega)
        have d1 := Int.ediv_le_self (a := c.c1 * P c) (Q c) (by omega)
        rw [tdiv_eq (by omega), wrap_i64 (by omega) (by omega)] at h9
        have f9 := f8.new f9 (fun _ _ e => e) (fun k e => by have e : k = b4 := e; omega)
        refine LdC_blk h9 rfl ?_
        refine LdC_blk h9 rfl ?_
        refine StC_blk h9 rfl (u := .int .i64 0) rfl (fun w10 h10 f10 _ => ?_)
        have r0 := hV.r0
        have r1 := hV.r1
        have h10 : Blk w10 b4 46 (geoL (c.c1 * P c) (P c) (Q c) c.c1 (c.c1 * P c / Q c) (imin 1048576 (IntKind.i64.wrap (IntKind.i64.wrap (c.c1 - 1) * P c)))) := h10
        have em : (c.c1 - 1) * P c = c.c1 * P c - P c := by rw [Int.sub_mul, Int.one_mul]
        rw [imin_eq, wrap_i64 (n := c.c1 - 1) (by omega) (by omega), em, wrap_i64 (by omega) (by omega)] at h10
        have f10 := f9.new f10 (fun _ _ e => e) (fun k e => by have e : k = b4 := e; omega)
        refine LdN_blk (vs := geoL (c.c1 * P c) (P c) (Q c) c.c1 (c.c1 * P c / Q c) (min 1048576 (c.c1 * P c - P c))) h10 rfl rfl ?_
        refine StN_blk (h2.keep f10 id) rfl (Nat.le_refl 6) (fun w11 h11 f11 _ => ?_)
        refine LdN_blk (vs := geoL (c.c1 * P c) (P c) (Q c) c.c1 (c.c1 * P c / Q c) (min 1048576 (c.c1 * P c - P c))) h11 rfl rfl ?_
        exact ⟨.inl ⟨hV, rfl⟩, (f13.no f10).new f11 (fun _ _ e => e) (fun k e => by have e : k = b2 := e; omega)⟩
    · refine NewC_blk (fun b4 w4 hb4 h6 f4 _ => ?_)
      have f4 := f4.drewL
      refine Sd_intro f4.old ?_
      refine ⟨?_, trivial⟩
      refine CallC_intro (c0 _) (fun v w5 ⟨hv, f5⟩ => ?_)
      subst hv
      have h6 := h6.keep f5 id
      have f5 := f4.no f5
      refine Sd_intro f5.old ?_
      refine ⟨?_, trivial⟩
      refine CallC_intro (c2 _) (fun v w6 ⟨hv, f6⟩ => ?_)
      subst hv
      have h6 := h6.keep f6 id
      have f6 := f5.no f6
      refine Sd_intro f6.old ?_
      refine ⟨?_, trivial⟩
      have gb : w3.heap.size ≤ b4 := by first | (have := f4.size; have e : b4 = w4.heap.size := hb4; omega) | (have := f5.size; have e : b4 = w5.heap.size := hb4; omega) | (have e : b4 = w3.heap.size := hb4; omega)
      have gb2 : b2 < w3.heap.size := h2.lt
      refine StN_blk h6 rfl (Nat.le_refl 6) (fun w7 h7 f7 _ => ?_)
      have h7 : Blk w7 b4 46 (geoL 0 (P c) (Q c) c.c1 0 0) := h7
      have f7 := f6.new f7 (fun _ _ e => e) (fun k e => by have e : k = b4 := e; omega)
      refine LdC_blk h7 rfl ?_
      refine LdC_blk h7 rfl ?_
      refine StC_blk h7 rfl (u := .int .i64 0) rfl (fun w8 h8 f8 _ => ?_)
      have h8 : Blk w8 b4 46 (geoL (IntKind.i64.wrap (c.c1 * P c)) (P c) (Q c) c.c1 0 0) := h8
      rw [wrap_i64 (by omega) (by omega)] at h8
      have f8 := f7.new f8 (fun _ _ e => e) (fun k e => by have e : k = b4 := e; omega)
      refine LdC_blk h8 rfl ?_
      refine LdC_blk h8 rfl ?_
      refine Sd_intro (show Q c ≠ 0 by omega) ?_
      refine StC_blk h8 rfl (u := .int .i64 0) rfl (fun w9 h9 f9 _ => ?_)
      have h9 : Blk w9 b4 46 (geoL (c.c1 * P c) (P c) (Q c) c.c1 (IntKind.i64.wrap (Int.tdiv (c.c1 * P c) (Q c))) 0) := h9
      have d0 : 0 ≤ c.c1 * P c / Q c := Int.ediv_nonneg (by omega) (by omega)
      have d1 := Int.ediv_le_self (a := c.c1 * P c) (Q c) (by omega)
      rw [tdiv_eq (by omega), wrap_i64 (by omega) (by omega)] at h9
      have f9 := f8.new f9 (fun _ _ e => e) (fun k e => by have e : k = b4 := e; omega)
      refine LdC_blk h9 rfl ?_
      refine LdC_blk h9 rfl ?_
      refine StC_blk h9 rfl (u := .int .i64 0) rfl (fun w10 h10 f10 _ => ?_)
      have r0 := hV.r0
      have r1 := hV.r1
      have h10 : Blk w10 b4 46 (geoL (c.c1 * P c) (P c) (Q c) c.c1 (c.c1 * P c / Q c) (imin 1048576 (IntKind.i64.wrap (IntKind.i64.wrap (c.c1 - 1) * P c)))) := h10
      have em : (c.c1 - 1) * P c = c.c1 * P c - P c := by rw [Int.sub_mul, Int.one_mul]
      rw [imin_eq, wrap_i64 (n := c.c1 - 1) (by omega) (by omega), em, wrap_i64 (by omega) (by omega)] at h10
      have f10 := f9.new f10 (fun _ _ e => e) (fun k e => by have e : k = b4 := e; omega)
      refine LdN_blk (vs := geoL (c.c1 * P c) (P c) (Q c) c.c1 (c.c1 * P c / Q c) (min 1048576 (c.c1 * P c - P c))) h10 rfl rfl ?_
      refine StN_blk (h2.keep f10 id) rfl (Nat.le_refl 6) (fun w11 h11 f11 _ => ?_)
      refine LdN_blk (vs := geoL (c.c1 * P c) (P c) (Q c) c.c1 (c.c1 * P c / Q c) (min 1048576 (c.c1 * P c - P c))) h11 rfl rfl ?_
      exact ⟨.inl ⟨hV, rfl⟩, (f13.no f10).new f11 (fun _ _ e => e) (fun k e => by have e : k = b2 := e; omega)⟩
end Go.Proofs.Ytilhoimokegpjaa
