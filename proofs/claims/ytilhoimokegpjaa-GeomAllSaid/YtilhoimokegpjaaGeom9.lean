/- Layer 2 (geom): GeomAll. -/
import Derived.Test.YtilhoimokegpjaaGeom8
import Derived.Test.YtilhoimokegpjaaRef02d
namespace Go.Proofs.Ytilhoimokegpjaa
open Go.Vc

theorem Span_all (a0 a2 a3 a4 a5 n : Int) (k : Nat) (hk : k ≤ 20) (hn : -9223372036854775808 ≤ n ∧ n ≤ 9223372036854775807) (w : World) :
    CallC Pr f_geom_Geom_Span [geoV a0 (2 ^ k) a2 a3 a4 a5, .int .i64 n] w (fun v w' => v = .int .i64 (if n < 1 then 0 else IntKind.i64.wrap ((n - 1) / 2 ^ k + 1)) ∧ Fr No w w') := by
  refine call_sound T_ok fun_geom_Geom_Span rfl (by kernel_rfl) rfl ?_
  refine NewC_blk (fun b w1 hb h2 f1 _ => ?_)
  refine Br_dec (fun g => ?_) (fun g => ?_)
  · exact ⟨by rw [if_pos g]; rfl, f1⟩
  · refine LdC_blk h2 rfl ?_
    refine CallC_intro (log_spec k (by omega) w1) (fun v w2 ⟨hv, f2⟩ => ?_)
    subst hv
    refine Sd_intro (by omega) ?_
    refine ⟨?_, f1.no f2⟩
    rw [if_neg g]
    have g : ¬ n < 1 := g
    show Value.int .i64 (IntKind.i64.wrap (shiftV .shr .i64 (IntKind.i64.wrap (n - 1)) ((k : Int)).toNat + 1)) = _
    rw [wrap_i64 (n := n - 1) (by omega) (by omega), Int.toNat_natCast, shr_i64 _ (by omega)]
theorem ite_tuple (p : Prop) [Decidable p] (x : Int) : (if p then Value.tuple #[.int .i64 0, .int .i64 2] else .tuple #[.int .i64 x, .int .i64 0]) = .tuple #[.int .i64 (if p then 0 else x), .int .i64 (if p then 2 else 0)] := by
  split <;> rfl
theorem GeomAll_spec (c : Cfg) (a b size : Int) (hsz : -9223372036854775808 ≤ size ∧ size ≤ 9223372036854775807) (w : World) : CallC Pr f_gleanerlaw02_GeomAll [cfgV c, .int .i64 a, .int .i64 b, .int .i64 size] w (fun v w' => v = .bool true ∧ Fr No w w') := by
  refine call_sound T_ok fun_gleanerlaw02_GeomAll rfl (by kernel_rfl) rfl ?_
  refine NewC_blk (fun bk w1 hb h1 f1 _ => ?_)
  have h1 : Blk w1 bk t_api_Config (cfgL c) := h1
  refine CallC_intro (awake2_spec w1) (fun v w2 ⟨hv, f2⟩ => ?_)
  subst hv
  have h1 := h1.keep f2 id
  refine LdN_blk (vs := cfgL c) h1 rfl rfl ?_
  refine CallC_intro (geom_New_spec c w2) (fun v w3 ⟨hv, f3⟩ => ?_)
  have h1 := h1.keep f3 id
  have f := (f1.no f2).no f3
  rcases hv with ⟨hV, hv⟩ | ⟨hn, hv⟩
  · subst hv
    have hs := hV.s0
    have hs1 := hV.s1
    have hcs := hV.cs
    have hr := hV.r1
    have hr0 := hV.r0
    have hp := P_le hV
    have d0 : 0 ≤ c.c1 * P c / Q c := Int.ediv_nonneg (by omega) (by omega)
    have d1 := Int.ediv_le_self (a := c.c1 * P c) (Q c) (by omega)
    have nq : c.c1 * P c / Q c * Q c ≤ c.c1 * P c := Int.ediv_mul_le _ (by omega)
    refine NewC_blk (fun p w4 hp h4 f4 _ => ?_)
    refine StN_blk h4 rfl (Nat.le_refl 6) (fun w5 h5 f5 _ => ?_)
    have h5 : Blk w5 p 29 (geoL (c.c1 * P c) (P c) (Q c) c.c1 (c.c1 * P c / Q c) (min 1048576 (c.c1 * P c - P c))) := h5
    have f35 : Fr No w3 w5 := f4.new f5 (fun _ _ e => e) (fun k e => by have e : k = p := e; omega)
    have h1 := h1.keep f35 id
    have f := f.no f35
    refine LdN_blk (vs := cfgL c) h1 rfl rfl ?_
    refine CallC_intro (RNew_spec c w5) (fun v w6 ⟨hv, f6⟩ => ?_)
    rcases hv with ⟨_, hv⟩ | ⟨hn, _⟩
    rotate_left
    · exact absurd hV hn
    subst hv
    have h6 := h5.keep f6 id
    refine NewC_blk (fun p2 w7 hp2 h7 f7 _ => ?_)
    refine StN_blk h7 rfl (Nat.le_refl 6) (fun w8 h8 f8 _ => ?_)
    have k8 : Blk w8 p2 46 (geoL (c.c1 * P c) (P c) (Q c) c.c1 (c.c1 * P c / Q c) (min 1048576 (c.c1 * P c - P c))) := h8
    have f68 : Fr No w6 w8 := f7.new f8 (fun _ _ e => e) (fun k e => by have e : k = p2 := e; omega)
    have g8 := h6.keep f68 id
    have f := (f.no f6).no f68
    refine LdC_blk g8 rfl ?_
    refine LdC_blk k8 rfl ?_
    refine Br_nf rfl ?_
    refine LdC_blk g8 rfl ?_
    refine LdC_blk k8 rfl ?_
    refine Br_nf rfl ?_
    refine LdC_blk g8 rfl ?_
    refine LdC_blk k8 rfl ?_
    refine Br_nf rfl ?_
    refine LdC_blk g8 rfl ?_
    refine LdC_blk k8 rfl ?_
    refine Br_nf rfl ?_
    refine LdC_blk g8 rfl ?_
    refine LdC_blk k8 rfl ?_
    refine Br_nf rfl ?_
    refine LdC_blk g8 rfl ?_
    refine LdC_blk k8 rfl ?_
    refine Br_nf rfl ?_
    refine LdN_blk (vs := geoL (c.c1 * P c) (P c) (Q c) c.c1 (c.c1 * P c / Q c) (min 1048576 (c.c1 * P c - P c))) g8 rfl rfl ?_
    refine CallC_intro (Base_spec (c.c1 * P c) (Q c) c.c1 (c.c1 * P c / Q c) (min 1048576 (c.c1 * P c - P c)) a c.c0.toNat (by omega) (by show c.c1 * P c ≤ _; omega) w8) (fun v w9 ⟨hv, f1⟩ => ?_)
    rw [ite_tuple] at hv
    subst hv
    have g9 := g8.keep f1 id
    have k9 := k8.keep f1 id
    have f := f.no f1
    refine LdN_blk (vs := geoL (c.c1 * P c) (P c) (Q c) c.c1 (c.c1 * P c / Q c) (min 1048576 (c.c1 * P c - P c))) k9 rfl rfl ?_
    refine CallC_intro (RBase_spec (c.c1 * P c) (P c) (Q c) c.c1 (c.c1 * P c / Q c) (min 1048576 (c.c1 * P c - P c)) a (by omega) (by omega) (by omega) (by omega) w9) (fun v w10 ⟨hv, f1⟩ => ?_)
    rw [ite_tuple] at hv
    subst hv
    have g10 := g9.keep f1 id
    have k10 := k9.keep f1 id
    have f := f.no f1
    refine LdN_blk (vs := geoL (c.c1 * P c) (P c) (Q c) c.c1 (c.c1 * P c / Q c) (min 1048576 (c.c1 * P c - P c))) g10 rfl rfl ?_
    refine CallC_intro (First_spec (c.c1 * P c) (P c) c.c1 (c.c1 * P c / Q c) (min 1048576 (c.c1 * P c - P c)) a c.c2.toNat (by omega) (by show c.c1 * P c / Q c * Q c ≤ _; omega) w10) (fun v w11 ⟨hv, f1⟩ => ?_)
    rw [ite_tuple] at hv
    subst hv
    have g11 := g10.keep f1 id
    have k11 := k10.keep f1 id
    have f := f.no f1
    refine LdN_blk (vs := geoL (c.c1 * P c) (P c) (Q c) c.c1 (c.c1 * P c / Q c) (min 1048576 (c.c1 * P c - P c))) k11 rfl rfl ?_
    refine CallC_intro (RFirst_spec (c.c1 * P c) (P c) (Q c) c.c1 (c.c1 * P c / Q c) (min 1048576 (c.c1 * P c - P c)) a (by omega) (by omega) (by omega) (by omega) w11) (fun v w12 ⟨hv, f1⟩ => ?_)
    rw [ite_tuple] at hv
    subst hv
    have g12 := g11.keep f1 id
    have k12 := k11.keep f1 id
    have f := f.no f1
    refine AnyC_ord [0,1,2,3,4,5,6,7,8,9,10,11,12,13,14,15,16,17,18,19,20,22,23,1021,1024,25,26,27,28,29,31,32,1030,1033,34,35,36,37,38,39,41,42,43,1040,1044,45,46,47,48,49,51,52,1050,1053,54,55,56,57,58,60,61,1059,1062,63,64,65] T_ok mixed (by kernel_rfl) (by kernel_rfl) ?_
    refine Br_dt rfl ?_
    refine Br_dt rfl ?_
    refine Br_dt rfl ?_
    refine Br_dt rfl ?_
    refine LdSN_blk (vs := geoL (c.c1 * P c) (P c) (Q c) c.c1 (c.c1 * P c / Q c) (min 1048576 (c.c1 * P c - P c))) g12 rfl rfl ?_
    refine LdSN_blk (vs := geoL (c.c1 * P c) (P c) (Q c) c.c1 (c.c1 * P c / Q c) (min 1048576 (c.c1 * P c - P c))) k12 rfl rfl ?_
    refine ⟨?_, trivial⟩
    refine CallC_intro (Region_spec (c.c1 * P c) (Q c) c.c1 (c.c1 * P c / Q c) (min 1048576 (c.c1 * P c - P c)) a c.c0.toNat (by omega) _) (fun v u0 ⟨hv, f1⟩ => ?_)
    subst hv
    have q0 := f1.drewL
    refine Sd_intro q0.old ?_
    refine ⟨?_, trivial⟩
    refine CallC_intro (RRegion_spec (c.c1 * P c) (P c) (Q c) c.c1 (c.c1 * P c / Q c) (min 1048576 (c.c1 * P c - P c)) a (by omega) (by omega) (by omega) _) (fun v u1 ⟨hv, f1⟩ => ?_)
    subst hv
    have q1 := q0.no f1
    refine Sd_intro q1.old ?_
    refine Br_dt rfl ?_
    refine LdSN_blk (vs := geoL (c.c1 * P c) (P c) (Q c) c.c1 (c.c1 * P c / Q c) (min 1048576 (c.c1 * P c - P c))) g12 rfl rfl ?_
    refine LdSN_blk (vs := geoL (c.c1 * P c) (P c) (Q c) c.c1 (c.c1 * P c / Q c) (min 1048576 (c.c1 * P c - P c))) k12 rfl rfl ?_
    refine ⟨?_, trivial⟩
    refine CallC_intro (Card_spec (c.c1 * P c) (P c) c.c1 (c.c1 * P c / Q c) (min 1048576 (c.c1 * P c - P c)) a c.c2.toNat (by omega) _) (fun v u2 ⟨hv, f1⟩ => ?_)
    subst hv
    have q2 := q1.no f1
    refine Sd_intro q2.old ?_
    refine ⟨?_, trivial⟩
    refine CallC_intro (RCard_spec (c.c1 * P c) (P c) (Q c) c.c1 (c.c1 * P c / Q c) (min 1048576 (c.c1 * P c - P c)) a (by omega) (by omega) (by omega) _) (fun v u3 ⟨hv, f1⟩ => ?_)
    subst hv
    have q3 := q2.no f1
    refine Sd_intro q3.old ?_
    refine Br_dt rfl ?_
    refine LdSN_blk (vs := geoL (c.c1 * P c) (P c) (Q c) c.c1 (c.c1 * P c / Q c) (min 1048576 (c.c1 * P c - P c))) g12 rfl rfl ?_
    refine LdSN_blk (vs := geoL (c.c1 * P c) (P c) (Q c) c.c1 (c.c1 * P c / Q c) (min 1048576 (c.c1 * P c - P c))) k12 rfl rfl ?_
    refine ⟨?_, trivial⟩
    refine CallC_intro (Cross_spec (c.c1 * P c) (Q c) c.c1 (c.c1 * P c / Q c) (min 1048576 (c.c1 * P c - P c)) a b c.c0.toNat (by omega) (by omega) _) (fun v u4 ⟨hv, f1⟩ => ?_)
    subst hv
    have q4 := q3.no f1
    refine Sd_intro q4.old ?_
    refine ⟨?_, trivial⟩
    refine CallC_intro (RCross_spec (c.c1 * P c) (P c) (Q c) c.c1 (c.c1 * P c / Q c) (min 1048576 (c.c1 * P c - P c)) a b (by omega) (by omega) (by omega) _) (fun v u5 ⟨hv, f1⟩ => ?_)
    subst hv
    have q5 := q4.no f1
    refine Sd_intro q5.old ?_
    refine Br_t (beq_self_eq_true _) ?_
    refine LdSN_blk (vs := geoL (c.c1 * P c) (P c) (Q c) c.c1 (c.c1 * P c / Q c) (min 1048576 (c.c1 * P c - P c))) g12 rfl rfl ?_
    refine LdSN_blk (vs := geoL (c.c1 * P c) (P c) (Q c) c.c1 (c.c1 * P c / Q c) (min 1048576 (c.c1 * P c - P c))) k12 rfl rfl ?_
    refine ⟨?_, trivial⟩
    refine CallC_intro (Big_spec (c.c1 * P c) (P c) (Q c) c.c1 (c.c1 * P c / Q c) (min 1048576 (c.c1 * P c - P c)) size _) (fun v u6 ⟨hv, f1⟩ => ?_)
    subst hv
    have q6 := q5.no f1
    refine Sd_intro q6.old ?_
    refine ⟨?_, trivial⟩
    refine CallC_intro (RBig_spec (c.c1 * P c) (P c) (Q c) c.c1 (c.c1 * P c / Q c) (min 1048576 (c.c1 * P c - P c)) size (by omega) (by omega) _) (fun v u7 ⟨hv, f1⟩ => ?_)
    subst hv
    have q7 := q6.no f1
    refine Sd_intro q7.old ?_
    refine Br_t (beq_self_eq_true _) ?_
    refine LdSN_blk (vs := geoL (c.c1 * P c) (P c) (Q c) c.c1 (c.c1 * P c / Q c) (min 1048576 (c.c1 * P c - P c))) g12 rfl rfl ?_
    refine LdSN_blk (vs := geoL (c.c1 * P c) (P c) (Q c) c.c1 (c.c1 * P c / Q c) (min 1048576 (c.c1 * P c - P c))) k12 rfl rfl ?_
    refine ⟨?_, trivial⟩
    refine CallC_intro (Span_all (c.c1 * P c) (Q c) c.c1 (c.c1 * P c / Q c) (min 1048576 (c.c1 * P c - P c)) size c.c0.toNat (by omega) hsz _) (fun v u8 ⟨hv, f1⟩ => ?_)
    subst hv
    have q8 := q7.no f1
    refine Sd_intro q8.old ?_
    refine ⟨?_, trivial⟩
    refine CallC_intro (RSpan_spec (c.c1 * P c) (P c) (Q c) c.c1 (c.c1 * P c / Q c) (min 1048576 (c.c1 * P c - P c)) size (by omega) hsz _) (fun v u9 ⟨hv, f1⟩ => ?_)
    subst hv
    have q9 := q8.no f1
    refine Sd_intro q9.old ?_
    refine ⟨?_, f.no q9⟩
    exact congrArg Value.bool (decide_eq_true rfl)
  · subst hv
    refine NewC_blk (fun p w4 hp h4 f4 _ => ?_)
    refine StN_blk h4 rfl (Nat.le_refl 6) (fun w5 h5 f5 _ => ?_)
    have h5 : Blk w5 p 29 (geoL 0 0 0 0 0 0) := h5
    have f35 : Fr No w3 w5 := f4.new f5 (fun _ _ e => e) (fun k e => by have e : k = p := e; omega)
    have h1 := h1.keep f35 id
    have f := f.no f35
    refine LdN_blk (vs := cfgL c) h1 rfl rfl ?_
    refine CallC_intro (RNew_spec c w5) (fun v w6 ⟨hv, f6⟩ => ?_)
    rcases hv with ⟨hV, hv⟩ | ⟨_, hv⟩
    · exact absurd hV hn
    · subst hv
      have h6 := h5.keep f6 id
      refine NewC_blk (fun p2 w7 hp2 h7 f7 _ => ?_)
      refine StN_blk h7 rfl (Nat.le_refl 6) (fun w8 h8 f8 _ => ?_)
      have h8 : Blk w8 p2 46 (geoL 0 0 0 0 0 0) := h8
      have f68 : Fr No w6 w8 := f7.new f8 (fun _ _ e => e) (fun k e => by have e : k = p2 := e; omega)
      have h9 := h6.keep f68 id
      have f := (f.no f6).no f68
      refine LdC_blk h9 rfl ?_
      refine LdC_blk h8 rfl ?_
      refine LdC_blk h9 rfl ?_
      refine LdC_blk h8 rfl ?_
      refine LdC_blk h9 rfl ?_
      refine LdC_blk h8 rfl ?_
      refine LdC_blk h9 rfl ?_
      refine LdC_blk h8 rfl ?_
      refine LdC_blk h9 rfl ?_
      refine LdC_blk h8 rfl ?_
      refine LdC_blk h9 rfl ?_
      refine LdC_blk h8 rfl ?_
      exact ⟨rfl, f⟩
end Go.Proofs.Ytilhoimokegpjaa
