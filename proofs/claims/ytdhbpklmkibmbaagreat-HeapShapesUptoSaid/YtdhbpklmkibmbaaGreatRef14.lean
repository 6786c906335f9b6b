/- The document's answer for layer 2. -/
import Derived.Test.YtdhbpklmkibmbaaGreatGeom5
import Derived.Test.YtdhbpklmkibmbaaGreatMapI
import Derived.Test.YtdhbpklmkibmbaaGreatSame01
import Derived.Test.YtdhbpklmkibmbaaGreatVcR
import Derived.Test.YtdhbpklmkibmbaaGreatVcU
namespace Go.Proofs.YtdhbpklmkibmbaaGreat
open Go.Vc

theorem in_spec (n a b : Int) (w : World) : CallC Pr f_gleanerref02_in [.int .i64 n, .int .i64 a, .int .i64 b] w (fun v w' => v = .bool (decide (a ≤ n ∧ n ≤ b)) ∧ Fr No w w') := by
  refine call_sound T_ok fun_gleanerref02_in rfl (by kernel_rfl) rfl (Kp ?_)
  refine Br_dec (fun h0 => ?_) (fun h0 => ?_)
  · refine ⟨?_, Fr.refl _ _⟩
    show Value.bool (decide (n ≤ b)) = _
    congr 1
    exact decide_eq_decide.2 ⟨fun h => ⟨h0, h⟩, fun h => h.2⟩
  · refine ⟨?_, Fr.refl _ _⟩
    show Value.bool false = _
    rw [decide_eq_false (fun h => h0 h.1)]
theorem power_spec (n : Int) (h0 : 0 ≤ n) (h1 : n ≤ 40) (w : World) : CallC Pr f_gleanerref02_power [.int .i64 n] w (fun v w' => v = .int .i64 (2 ^ n.toNat) ∧ Fr No w w') := by
  refine call_sound T_ok fun_gleanerref02_power rfl (by kernel_rfl) rfl (Kp ?_)
  refine LoopC_intro (α := Int × Int) (fun x => [(0, .int .i64 n), (3, .int .i64 x.2), (4, .int .i64 x.1)]) (fun m x w1 => Fr No w w1 ∧ 0 ≤ x.1 ∧ x.1 ≤ n ∧ x.2 = 2 ^ x.1.toNat ∧ m = (n - x.1).toNat)
    (n - 0 : Int).toNat (0, 1) ⟨rfl, rfl, rfl, trivial⟩ ⟨Fr.refl _ _, (show (0 : Int) ≤ 0 by omega), (show (0 : Int) ≤ n by omega), rfl, rfl⟩ ?_
  rintro m ⟨i, q⟩ w1 ⟨hF, i0, i1, hq, hm⟩
  have i0 : 0 ≤ i := i0
  have i1 : i ≤ n := i1
  have hq : q = 2 ^ i.toNat := hq
  have hm : m = (n - i).toNat := hm
  refine Br_dec (fun g => ?_) (fun g => ?_)
  · have g : i < n := g
    have ei : IntKind.i64.wrap (i + 1) = i + 1 := wrap_i64 (by omega) (by omega)
    have hb : (2 : Int) ^ i.toNat ≤ 2 ^ 40 := pow_le (by omega)
    have e40 : (2 : Int) ^ 40 = 1099511627776 := by decide
    have hp := pow_pos2 i.toNat
    have eq : IntKind.i64.wrap (2 * q) = 2 * q := wrap_i64 (by omega) (by omega)
    refine ⟨(n - (i + 1)).toNat, _, by omega, ?_, (i + 1, 2 * q), rfl, hF, (show 0 ≤ i + 1 by omega), (show i + 1 ≤ n by omega), ?_, rfl⟩
    · exact ⟨rfl, look_int rfl eq, look_int rfl ei, trivial⟩
    · show 2 * q = 2 ^ (i + 1).toNat
      rw [show (i + 1).toNat = i.toNat + 1 by omega, Int.pow_succ, hq]; omega
  · have g : ¬ i < n := g
    have : i = n := by omega
    subst this
    refine ⟨?_, hF⟩
    show Value.int .i64 q = _
    rw [hq]
theorem RBig_spec (a0 a1 a2 a3 a4 a5 n : Int) (h : 0 ≤ a1) (h1 : a1 ≤ 4194304) (w : World) : CallC Pr f_gleanerref02_Geom_Big [geoV a0 a1 a2 a3 a4 a5, .int .i64 n] w (fun v w' => v = .bool (decide (n > a1 / 2)) ∧ Fr No w w') := by
  refine call_sound T_ok fun_gleanerref02_Geom_Big rfl (by kernel_rfl) rfl (Kp ?_)
  refine NewC_blk (fun b w1 hb h2 f1 _ => ?_)
  refine LdC_blk h2 rfl ?_
  refine Sd_intro (by omega) ?_
  refine ⟨?_, f1⟩
  show Value.bool (decide (n > IntKind.i64.wrap (a1.tdiv 2))) = _
  rw [tdiv_eq h, wrap_i64 (by omega) (by omega)]
end Go.Proofs.YtdhbpklmkibmbaaGreat
/- The document's answer for layer 2: Base, First, Cross. -/
namespace Go.Proofs.YtdhbpklmkibmbaaGreat
open Go.Vc
end Go.Proofs.YtdhbpklmkibmbaaGreat
/- The document's answer for layer 2: May. -/
namespace Go.Proofs.YtdhbpklmkibmbaaGreat
open Go.Vc

theorem RMay_spec (c : Cfg) (w : World) : CallC Pr f_gleanerref02_May [cfgV c] w (fun v w' => ∃ ok : Bool, v = .bool ok ∧ (ok = true ↔ Valid c) ∧ Fr No w w') := by
  have no : ∀ w' : World, ¬ Valid c → Fr No w w' → ∃ ok : Bool, Value.bool false = .bool ok ∧ (ok = true ↔ Valid c) ∧ Fr No w w' := fun w' hn f => ⟨false, rfl, ⟨fun h => (by cases h), fun h => absurd h hn⟩, f⟩
  refine call_sound T_ok fun_gleanerref02_May rfl (by kernel_rfl) rfl (Kp ?_)
  refine NewC_blk (fun b w1 hb h1 f1 _ => ?_)
  have h1 : Blk w1 b t_api_Config (cfgL c) := h1
  refine AnyC_ord [0, 1, 1002, 3, 4, 5, 1006, 7, 8, 9, 10, 11, 12, 13, 14, 1015, 16, 17, 18, 19, 20, 21, 22, 23, 1024, 25, 26, 27, 28, 1029, 30, 31, 32, 33, 1034, 35, 36, 37, 38, 1039, 40, 41, 42, 43, 1044, 45, 46, 47, 48, 49, 50, 1051, 52, 53, 54, 55, 1056, 57, 58, 59, 60, 1061, 62, 63, 64, 65, 1066, 67, 68, 69, 70, 1071, 72, 73, 74, 75, 1076, 77, 78, 79, 80, 1081, 82, 83] T_ok mixed (by kernel_rfl) (by kernel_rfl) ?_
  refine LdS_blk h1 rfl ?_
  refine ⟨?_, trivial⟩
  refine CallC_intro (in_spec _ _ _ _) (fun v w2 ⟨hv, g0⟩ => ?_)
  subst hv
  have q0 := g0.drewL
  refine Sd_intro q0.old ?_
  refine Br_dec (fun e0 => ?_) (fun e0 => ?_)
  rotate_left
  · repeat refine ⟨?_, trivial⟩
    exact no _ (fun h => e0 ⟨h.s0, h.s1⟩) (f1.no q0)
  have e0 : 6 ≤ c.c0 ∧ c.c0 ≤ 20 := e0
  refine LdS_blk h1 rfl ?_
  refine ⟨?_, trivial⟩
  refine CallC_intro (in_spec _ _ _ _) (fun v w3 ⟨hv, g1⟩ => ?_)
  subst hv
  have q1 := q0.no g1
  refine Sd_intro q1.old ?_
  refine Br_dec (fun e1 => ?_) (fun e1 => ?_)
  rotate_left
  · repeat refine ⟨?_, trivial⟩
    exact no _ (fun h => e1 ⟨h.r0, h.r1⟩) (f1.no q1)
  refine LdS_blk h1 rfl ?_
  refine LdS_blk h1 rfl ?_
  refine ⟨?_, trivial⟩
  have em : imin (imax c.c0 6) 20 = c.c0 := by rw [imax_eq, imin_eq]; omega
  have hpw : ∀ j w, j = c.c0 → CallC Pr f_gleanerref02_power [.int .i64 j] w (fun v w' => v = .int .i64 (2 ^ c.c0.toNat) ∧ Fr No w w') := fun j w e => by subst e; exact power_spec c.c0 (by omega) (by omega) w
  refine CallC_intro (hpw _ _ em) (fun v w4 ⟨hv, g2⟩ => ?_)
  subst hv
  have q2 := q1.no g2
  refine Sd_intro q2.old ?_
  have pp := pow_pos2 c.c0.toNat
  have pd : IntKind.i64.wrap (Int.tdiv 4194304 (2 ^ c.c0.toNat)) = 4194304 / 2 ^ c.c0.toNat := by
    have a1 : 0 ≤ 4194304 / (2 : Int) ^ c.c0.toNat := Int.ediv_nonneg (by omega) (by omega)
    have a2 := Int.ediv_le_self (a := 4194304) ((2 : Int) ^ c.c0.toNat) (by omega)
    rw [tdiv_eq (by omega), wrap_i64 (by omega) (by omega)]
  refine Sd_intro (by omega) ?_
  refine Br_dec (fun e2 => ?_) (fun e2 => ?_)
  rotate_left
  · repeat refine ⟨?_, trivial⟩
    exact no _ (fun h => e2 (show c.c1 ≤ IntKind.i64.wrap (Int.tdiv 4194304 (2 ^ c.c0.toNat)) by rw [pd]; exact h.r2)) (f1.no q2)
  have e2 : c.c1 ≤ IntKind.i64.wrap (Int.tdiv 4194304 (2 ^ c.c0.toNat)) := e2
  rw [pd] at e2
  refine LdS_blk h1 rfl ?_
  refine LdS_blk h1 rfl ?_
  refine ⟨?_, trivial⟩
  refine CallC_intro (in_spec _ _ _ _) (fun v w5 ⟨hv, g3⟩ => ?_)
  subst hv
  have q3 := q2.no g3
  refine Sd_intro q3.old ?_
  refine Br_dec (fun e3 => ?_) (fun e3 => ?_)
  rotate_left
  · repeat refine ⟨?_, trivial⟩
    exact no _ (fun h => e3 (h.ls 0 _ rfl)) (f1.no q3)
  refine LdS_blk h1 rfl ?_
  refine ⟨?_, trivial⟩
  refine CallC_intro (in_spec _ _ _ _) (fun v w6 ⟨hv, g4⟩ => ?_)
  subst hv
  have q4 := q3.no g4
  refine Sd_intro q4.old ?_
  refine Br_dec (fun e4 => ?_) (fun e4 => ?_)
  rotate_left
  · repeat refine ⟨?_, trivial⟩
    exact no _ (fun h => e4 (h.ls 1 _ rfl)) (f1.no q4)
  refine LdS_blk h1 rfl ?_
  refine ⟨?_, trivial⟩
  refine CallC_intro (in_spec _ _ _ _) (fun v w7 ⟨hv, g5⟩ => ?_)
  subst hv
  have q5 := q4.no g5
  refine Sd_intro q5.old ?_
  refine Br_dec (fun e5 => ?_) (fun e5 => ?_)
  rotate_left
  · repeat refine ⟨?_, trivial⟩
    exact no _ (fun h => e5 (h.ls 2 _ rfl)) (f1.no q5)
  refine LdS_blk h1 rfl ?_
  refine ⟨?_, trivial⟩
  refine CallC_intro (in_spec _ _ _ _) (fun v w8 ⟨hv, g6⟩ => ?_)
  subst hv
  have q6 := q5.no g6
  refine Sd_intro q6.old ?_
  refine Br_dec (fun e6 => ?_) (fun e6 => ?_)
  rotate_left
  · repeat refine ⟨?_, trivial⟩
    exact no _ (fun h => e6 (h.ls 3 _ rfl)) (f1.no q6)
  refine LdS_blk h1 rfl ?_
  refine ⟨?_, trivial⟩
  refine CallC_intro (in_spec _ _ _ _) (fun v w9 ⟨hv, g7⟩ => ?_)
  subst hv
  have q7 := q6.no g7
  refine Sd_intro q7.old ?_
  refine Br_dec (fun e7 => ?_) (fun e7 => ?_)
  rotate_left
  · repeat refine ⟨?_, trivial⟩
    exact no _ (fun h => e7 (h.ls 4 _ rfl)) (f1.no q7)
  refine LdS_blk h1 rfl ?_
  refine LdS_blk h1 rfl ?_
  refine ⟨?_, trivial⟩
  refine CallC_intro (in_spec _ _ _ _) (fun v w10 ⟨hv, g8⟩ => ?_)
  subst hv
  have q8 := q7.no g8
  refine Sd_intro q8.old ?_
  refine Br_dec (fun e8 => ?_) (fun e8 => ?_)
  rotate_left
  · repeat refine ⟨?_, trivial⟩
    exact no _ (fun h => e8 (h.ls 5 _ rfl)) (f1.no q8)
  refine LdS_blk h1 rfl ?_
  refine ⟨?_, trivial⟩
  refine CallC_intro (in_spec _ _ _ _) (fun v w11 ⟨hv, g9⟩ => ?_)
  subst hv
  have q9 := q8.no g9
  refine Sd_intro q9.old ?_
  refine Br_dec (fun e9 => ?_) (fun e9 => ?_)
  rotate_left
  · repeat refine ⟨?_, trivial⟩
    exact no _ (fun h => e9 (h.ls 6 _ rfl)) (f1.no q9)
  refine LdS_blk h1 rfl ?_
  refine ⟨?_, trivial⟩
  refine CallC_intro (in_spec _ _ _ _) (fun v w12 ⟨hv, g10⟩ => ?_)
  subst hv
  have q10 := q9.no g10
  refine Sd_intro q10.old ?_
  refine Br_dec (fun e10 => ?_) (fun e10 => ?_)
  rotate_left
  · repeat refine ⟨?_, trivial⟩
    exact no _ (fun h => e10 (h.ls 7 _ rfl)) (f1.no q10)
  refine LdS_blk h1 rfl ?_
  refine ⟨?_, trivial⟩
  refine CallC_intro (in_spec _ _ _ _) (fun v w13 ⟨hv, g11⟩ => ?_)
  subst hv
  have q11 := q10.no g11
  refine Sd_intro q11.old ?_
  refine Br_dec (fun e11 => ?_) (fun e11 => ?_)
  rotate_left
  · repeat refine ⟨?_, trivial⟩
    exact no _ (fun h => e11 (h.ls 8 _ rfl)) (f1.no q11)
  refine LdS_blk h1 rfl ?_
  refine ⟨?_, trivial⟩
  refine CallC_intro (in_spec _ _ _ _) (fun v w14 ⟨hv, g12⟩ => ?_)
  subst hv
  have q12 := q11.no g12
  refine Sd_intro q12.old ?_
  refine Br_dec (fun e12 => ?_) (fun e12 => ?_)
  rotate_left
  · repeat refine ⟨?_, trivial⟩
    exact no _ (fun h => e12 (h.ls 9 _ rfl)) (f1.no q12)
  refine LdS_blk h1 rfl ?_
  refine ⟨?_, trivial⟩
  refine CallC_intro (in_spec _ _ _ _) (fun v w15 ⟨hv, g13⟩ => ?_)
  subst hv
  have q13 := q12.no g13
  refine Sd_intro q13.old ?_
  refine Br_dec (fun e13 => ?_) (fun e13 => ?_)
  rotate_left
  · repeat refine ⟨?_, trivial⟩
    exact no _ (fun h => e13 (h.ls 10 _ rfl)) (f1.no q13)
  refine LdS_blk h1 rfl ?_
  refine ⟨?_, trivial⟩
  refine CallC_intro (in_spec _ _ _ _) (fun v w16 ⟨hv, g14⟩ => ?_)
  subst hv
  have q14 := q13.no g14
  refine Sd_intro q14.old ?_
  refine ⟨_, rfl, ⟨fun hd => ⟨e0.1, e0.2, e1.1, e1.2, e2, fun k x hx => ?_⟩, fun h => decide_eq_true (h.ls 11 _ rfl)⟩, f1.no q14⟩
  have e14 := of_decide_eq_true hd
  have hk := (List.getElem?_eq_some_iff.1 hx).1
  have hk : k < 12 := hk
  by_cases k0 : k = 0
  · subst k0; injection hx with hx; subst hx; exact e3
  by_cases k1 : k = 1
  · subst k1; injection hx with hx; subst hx; exact e4
  by_cases k2 : k = 2
  · subst k2; injection hx with hx; subst hx; exact e5
  by_cases k3 : k = 3
  · subst k3; injection hx with hx; subst hx; exact e6
  by_cases k4 : k = 4
  · subst k4; injection hx with hx; subst hx; exact e7
  by_cases k5 : k = 5
  · subst k5; injection hx with hx; subst hx; exact e8
  by_cases k6 : k = 6
  · subst k6; injection hx with hx; subst hx; exact e9
  by_cases k7 : k = 7
  · subst k7; injection hx with hx; subst hx; exact e10
  by_cases k8 : k = 8
  · subst k8; injection hx with hx; subst hx; exact e11
  by_cases k9 : k = 9
  · subst k9; injection hx with hx; subst hx; exact e12
  by_cases k10 : k = 10
  · subst k10; injection hx with hx; subst hx; exact e13
  by_cases k11 : k = 11
  · subst k11; injection hx with hx; subst hx; exact e14
  omega
end Go.Proofs.YtdhbpklmkibmbaaGreat
/- The document's answer for layer 2: New. -/
namespace Go.Proofs.YtdhbpklmkibmbaaGreat
open Go.Vc

def newPlan : Plan := .take 0 (.take 1 (.take 3 (.take 4 (.take 6 (.take 7
  (.alt 2 (.alt 5 (.take 8 (.alt 9 (.alt 10 .done .stop) .stop)) (.alt 9 (.alt 5 (.take 8 (.alt 10 .done .stop)) .stop) .stop))
    (.alt 9 (.alt 2 (.alt 5 (.take 8 (.alt 10 .done .stop)) .stop) .stop) .stop)))))))
theorem RNew_spec (c : Cfg) (w : World) : CallC Pr f_gleanerref02_New [cfgV c] w (fun v w' =>
    ((Valid c ∧ v = .tuple #[geoOf c, .int .i64 0]) ∨ (¬ Valid c ∧ v = .tuple #[geoV 0 0 0 0 0 0, .int .i64 20])) ∧ Fr No w w') := by
  refine call_sound T_ok fun_gleanerref02_New rfl (by kernel_rfl) rfl (Kp ?_)
  refine NewC_blk (fun b w1 hb h1 f1 _ => ?_)
  have h1 : Blk w1 b t_api_Config (cfgL c) := h1
  refine NewC_blk (fun b2 w2 hb2 h2 f2 _ => ?_)
  have h1 := h1.keep f2 id
  refine LdN_blk (vs := cfgL c) h1 rfl rfl ?_
  refine CallC_intro (RMay_spec c w2) (fun v w3 ⟨ok, hv, hok, f3⟩ => ?_)
  subst hv
  have h1 := h1.keep f3 id
  have h2 := h2.keep f3 id
  have f13 := (f1.no f2).no f3
  have s1 := f1.size
  cases ok with
  | false =>
    refine StN_blk h2 rfl (Nat.le_refl 6) (fun w4 h4 f4 _ => ?_)
    refine LdN_blk (vs := geoL 0 0 0 0 0 0) h4 rfl rfl ?_
    exact ⟨.inr ⟨fun h => (by have := hok.2 h; cases this), rfl⟩, f13.new f4 (fun _ _ e => e) (fun k e => by omega)⟩
  | true =>
    have hV := hok.1 rfl
    have hs := hV.s0
    have hs1 := hV.s1
    have hc := hV.cs
    have hp := P_le hV
    refine AnyC_plan T_ok mixed newPlan (Old w3) (by kernel_rfl) (by kernel_rfl) (fun _ _ => rfl) ?_
    refine LdS_blk h1 rfl ?_
    refine LdS_blk h1 rfl ?_
    refine LdS_blk h1 rfl ?_
    have c0 := fun w => power_spec c.c0 (by omega) (by omega) w
    have c2 := fun w => power_spec c.c2 (by omega) (by omega) w
    refine ⟨?_, ?_, trivial⟩
    · refine CallC_intro (c0 _) (fun v w4 ⟨hv, f4⟩ => ?_)
      subst hv
      have f4 := f4.drewL
      refine Sd_intro f4.old ?_
      refine ⟨?_, ?_, trivial⟩
      · refine CallC_intro (c2 _) (fun v w5 ⟨hv, f5⟩ => ?_)
        subst hv
        have f5 := f4.no f5
        refine Sd_intro f5.old ?_
        refine ⟨?_, trivial⟩
        refine NewC_blk (fun b4 w6 hb4 h6 f6 _ => ?_)
        have f6 := f5.no f6
        refine Sd_intro f6.old ?_
        refine ⟨?_, trivial⟩
        have gb : w3.heap.size ≤ b4 := by first | (have := f4.size; have e : b4 = w4.heap.size := hb4; omega) | (have := f5.size; have e : b4 = w5.heap.size := hb4; omega) | (have e : b4 = w3.heap.size := hb4; omega)
        have gb2 : b2 < w3.heap.size := h2.lt
        refine StN_blk h6 rfl (Nat.le_refl 6) (fun w7 h7 f7 _ => ?_)
        have h7 : Blk w7 b4 t_gleanerref02_Geom (geoL 0 (P c) (Q c) c.c1 0 0) := h7
        have f7 := f6.new f7 (fun _ _ e => e) (fun k e => by have e : k = b4 := e; omega)
        refine LdC_blk h7 rfl ?_
        refine LdC_blk h7 rfl ?_
        refine StC_blk h7 rfl (u := .int .i64 0) rfl (fun w8 h8 f8 _ => ?_)
        have h8 : Blk w8 b4 t_gleanerref02_Geom (geoL (IntKind.i64.wrap (c.c1 * P c)) (P c) (Q c) c.c1 0 0) := h8
        rw [wrap_i64 (by omega) (by omega)] at h8
        have f8 := f7.new f8 (fun _ _ e => e) (fun k e => by have e : k = b4 := e; omega)
        refine LdC_blk h8 rfl ?_
        refine LdC_blk h8 rfl ?_
        refine Sd_intro (show Q c ≠ 0 by omega) ?_
        refine StC_blk h8 rfl (u := .int .i64 0) rfl (fun w9 h9 f9 _ => ?_)
        have h9 : Blk w9 b4 t_gleanerref02_Geom (geoL (c.c1 * P c) (P c) (Q c) c.c1 (IntKind.i64.wrap (Int.tdiv (c.c1 * P c) (Q c))) 0) := h9
        have d0 : 0 ≤ c.c1 * P c / Q c := Int.ediv_nonneg (by omega) (by omega)
        have d1 := Int.ediv_le_self (a := c.c1 * P c) (Q c) (by omega)
        rw [tdiv_eq (by omega), wrap_i64 (by omega) (by omega)] at h9
        have f9 := f8.new f9 (fun _ _ e => e) (fun k e => by have e : k = b4 := e; omega)
        refine LdC_blk h9 rfl ?_
        refine LdC_blk h9 rfl ?_
        refine StC_blk h9 rfl (u := .int .i64 0) rfl (fun w10 h10 f10 _ => ?_)
        have r0 := hV.r0
        have r1 := hV.r1
        have h10 : Blk w10 b4 t_gleanerref02_Geom (geoL (c.c1 * P c) (P c) (Q c) c.c1 (c.c1 * P c / Q c) (imin 1048576 (IntKind.i64.wrap (IntKind.i64.wrap (c.c1 - 1) * P c)))) := h10
        have em : (c.c1 - 1) * P c = c.c1 * P c - P c := by rw [Int.sub_mul, Int.one_mul]
        rw [imin_eq, wrap_i64 (n := c.c1 - 1) (by omega) (by omega), em, wrap_i64 (by omega) (by omega)] at h10
        have f10 := f9.new f10 (fun _ _ e => e) (fun k e => by have e : k = b4 := e; omega)
        refine LdN_blk (vs := geoL (c.c1 * P c) (P c) (Q c) c.c1 (c.c1 * P c / Q c) (min 1048576 (c.c1 * P c - P c))) h10 rfl rfl ?_
        refine StN_blk (h2.keep f10 id) rfl (Nat.le_refl 6) (fun w11 h11 f11 _ => ?_)
        refine LdN_blk (vs := geoL (c.c1 * P c) (P c) (Q c) c.c1 (c.c1 * P c / Q c) (min 1048576 (c.c1 * P c - P c))) h11 rfl rfl ?_
        exact ⟨.inl ⟨hV, rfl⟩, (f13.no f10).new f11 (fun _ _ e => e) (fun k e => by have e : k = b2 := e; omega)⟩
      · refine NewC_blk (fun b4 w5 hb4 h6 f5 _ => ?_)
        have f5 := f4.no f5
        refine Sd_intro f5.old ?_
        refine ⟨?_, trivial⟩
        refine CallC_intro (c2 _) (fun v w6 ⟨hv, f6⟩ => ?_)
        subst hv
        have h6 := h6.keep f6 id
        have f6 := f5.no f6
        refine Sd_intro f6.old ?_
        refine ⟨?_, trivial⟩
        have gb : w3.heap.size ≤ b4 := by first | (have := f4.size; have e : b4 = w4.heap.size := hb4; omega) | (have := f5.size; have e : b4 = w5.heap.size := hb4; omega) | (have e : b4 = w3.heap.size := hb4; omega)
        have gb2 : b2 < w3.heap.size := h2.lt
        refine StN_blk h6 rfl (Nat.le_refl 6) (fun w7 h7 f7 _ => ?_)
        have h7 : Blk w7 b4 t_gleanerref02_Geom (geoL 0 (P c) (Q c) c.c1 0 0) := h7
        have f7 := f6.new f7 (fun _ _ e => e) (fun k e => by have e : k = b4 := e; omega)
        refine LdC_blk h7 rfl ?_
        refine LdC_blk h7 rfl ?_
        refine StC_blk h7 rfl (u := .int .i64 0) rfl (fun w8 h8 f8 _ => ?_)
        have h8 : Blk w8 b4 t_gleanerref02_Geom (geoL (IntKind.i64.wrap (c.c1 * P c)) (P c) (Q c) c.c1 0 0) := h8
        rw [wrap_i64 (by omega) (by omega)] at h8
        have f8 := f7.new f8 (fun _ _ e => e) (fun k e => by have e : k = b4 := e; omega)
        refine LdC_blk h8 rfl ?_
        refine LdC_blk h8 rfl ?_
        refine Sd_intro (show Q c ≠ 0 by omega) ?_
        refine StC_blk h8 rfl (u := .int .i64 0) rfl (fun w9 h9 f9 _ => ?_)
        have h9 : Blk w9 b4 t_gleanerref02_Geom (geoL (c.c1 * P c) (P c) (Q c) c.c1 (IntKind.i64.wrap (Int.tdiv (c.c1 * P c) (Q c))) 0) := h9
        have d0 : 0 ≤ c.c1 * P c / Q c := Int.ediv_nonneg (by omega) (by omega)
        have d1 := Int.ediv_le_self (a := c.c1 * P c) (Q c) (by omega)
        rw [tdiv_eq (by omega), wrap_i64 (by omega) (by omega)] at h9
        have f9 := f8.new f9 (fun _ _ e => e) (fun k e => by have e : k = b4 := e; omega)
        refine LdC_blk h9 rfl ?_
        refine LdC_blk h9 rfl ?_
        refine StC_blk h9 rfl (u := .int .i64 0) rfl (fun w10 h10 f10 _ => ?_)
        have r0 := hV.r0
        have r1 := hV.r1
        have h10 : Blk w10 b4 t_gleanerref02_Geom (geoL (c.c1 * P c) (P c) (Q c) c.c1 (c.c1 * P c / Q c) (imin 1048576 (IntKind.i64.wrap (IntKind.i64.wrap (c.c1 - 1) * P c)))) := h10
        have em : (c.c1 - 1) * P c = c.c1 * P c - P c := by rw [Int.sub_mul, Int.one_mul]
        rw [imin_eq, wrap_i64 (n := c.c1 - 1) (by omega) (by omega), em, wrap_i64 (by omega) (by omega)] at h10
        have f10 := f9.new f10 (fun _ _ e => e) (fun k e => by have e : k = b4 := e; omega)
        refine LdN_blk (vs := geoL (c.c1 * P c) (P c) (Q c) c.c1 (c.c1 * P c / Q c) (min 1048576 (c.c1 * P c - P c))) h10 rfl rfl ?_
        refine StN_blk (h2.keep f10 id) rfl (Nat.le_refl 6) (fun w11 h11 f11 _ => ?_)
        refine LdN_blk (vs := geoL (c.c1 * P c) (P c) (Q c) c.c1 (c.c1 * P c / Q c) (min 1048576 (c.c1 * P c - P c))) h11 rfl rfl ?_
        exact ⟨.inl ⟨hV, rfl⟩, (f13.no f10).new f11 (fun _ _ e => e) (fun k e => by have e : k = b2 := e; omega)⟩
    · refine NewC_blk (fun b4 w4 hb4 h6 f4 _ => ?_)
      have f4 := f4.drewL
      refine Sd_intro f4.old ?_
      refine ⟨?_, trivial⟩
      refine CallC_intro (c0 _) (fun v w5 ⟨hv, f5⟩ => ?_)
      subst hv
      have h6 := h6.keep f5 id
      have f5 := f4.no f5
      refine Sd_intro f5.old ?_
      refine ⟨?_, trivial⟩
      refine CallC_intro (c2 _) (fun v w6 ⟨hv, f6⟩ => ?_)
      subst hv
      have h6 := h6.keep f6 id
      have f6 := f5.no f6
      refine Sd_intro f6.old ?_
      refine ⟨?_, trivial⟩
      have gb : w3.heap.size ≤ b4 := by first | (have := f4.size; have e : b4 = w4.heap.size := hb4; omega) | (have := f5.size; have e : b4 = w5.heap.size := hb4; omega) | (have e : b4 = w3.heap.size := hb4; omega)
      have gb2 : b2 < w3.heap.size := h2.lt
      refine StN_blk h6 rfl (Nat.le_refl 6) (fun w7 h7 f7 _ => ?_)
      have h7 : Blk w7 b4 t_gleanerref02_Geom (geoL 0 (P c) (Q c) c.c1 0 0) := h7
      have f7 := f6.new f7 (fun _ _ e => e) (fun k e => by have e : k = b4 := e; omega)
      refine LdC_blk h7 rfl ?_
      refine LdC_blk h7 rfl ?_
      refine StC_blk h7 rfl (u := .int .i64 0) rfl (fun w8 h8 f8 _ => ?_)
      have h8 : Blk w8 b4 t_gleanerref02_Geom (geoL (IntKind.i64.wrap (c.c1 * P c)) (P c) (Q c) c.c1 0 0) := h8
      rw [wrap_i64 (by omega) (by omega)] at h8
      have f8 := f7.new f8 (fun _ _ e => e) (fun k e => by have e : k = b4 := e; omega)
      refine LdC_blk h8 rfl ?_
      refine LdC_blk h8 rfl ?_
      refine Sd_intro (show Q c ≠ 0 by omega) ?_
      refine StC_blk h8 rfl (u := .int .i64 0) rfl (fun w9 h9 f9 _ => ?_)
      have h9 : Blk w9 b4 t_gleanerref02_Geom (geoL (c.c1 * P c) (P c) (Q c) c.c1 (IntKind.i64.wrap (Int.tdiv (c.c1 * P c) (Q c))) 0) := h9
      have d0 : 0 ≤ c.c1 * P c / Q c := Int.ediv_nonneg (by omega) (by omega)
      have d1 := Int.ediv_le_self (a := c.c1 * P c) (Q c) (by omega)
      rw [tdiv_eq (by omega), wrap_i64 (by omega) (by omega)] at h9
      have f9 := f8.new f9 (fun _ _ e => e) (fun k e => by have e : k = b4 := e; omega)
      refine LdC_blk h9 rfl ?_
      refine LdC_blk h9 rfl ?_
      refine StC_blk h9 rfl (u := .int .i64 0) rfl (fun w10 h10 f10 _ => ?_)
      have r0 := hV.r0
      have r1 := hV.r1
      have h10 : Blk w10 b4 t_gleanerref02_Geom (geoL (c.c1 * P c) (P c) (Q c) c.c1 (c.c1 * P c / Q c) (imin 1048576 (IntKind.i64.wrap (IntKind.i64.wrap (c.c1 - 1) * P c)))) := h10
      have em : (c.c1 - 1) * P c = c.c1 * P c - P c := by rw [Int.sub_mul, Int.one_mul]
      rw [imin_eq, wrap_i64 (n := c.c1 - 1) (by omega) (by omega), em, wrap_i64 (by omega) (by omega)] at h10
      have f10 := f9.new f10 (fun _ _ e => e) (fun k e => by have e : k = b4 := e; omega)
      refine LdN_blk (vs := geoL (c.c1 * P c) (P c) (Q c) c.c1 (c.c1 * P c / Q c) (min 1048576 (c.c1 * P c - P c))) h10 rfl rfl ?_
      refine StN_blk (h2.keep f10 id) rfl (Nat.le_refl 6) (fun w11 h11 f11 _ => ?_)
      refine LdN_blk (vs := geoL (c.c1 * P c) (P c) (Q c) c.c1 (c.c1 * P c / Q c) (min 1048576 (c.c1 * P c - P c))) h11 rfl rfl ?_
      exact ⟨.inl ⟨hV, rfl⟩, (f13.no f10).new f11 (fun _ _ e => e) (fun k e => by have e : k = b2 := e; omega)⟩
end Go.Proofs.YtdhbpklmkibmbaaGreat
/- Layer 14's document: things, and what may be a plan. -/
namespace Go.Proofs.YtdhbpklmkibmbaaGreat
open Go.Vc

/-- A thing: its state, references by numbers, and words. -/
structure Th where
  st : Int
  refs : List Int
  data : List Int
def Th.size (t : Th) : Int := 1 + t.refs.length + t.data.length
/-- The value of a thing. -/
def ThV (w : World) (t : Th) (v : List Value) : Prop := ∃ rv dv, v = [.int .i64 t.st, rv, dv] ∧ Ints w rv t.refs ∧ UC w dv t.data
theorem ThV.keep {w w' : World} {t : Th} {v : List Value} (h : ThV w t v) (f : Fr No w w') : ThV w' t v := by
  obtain ⟨rv, dv, e, h1, h2⟩ := h
  exact ⟨rv, dv, e, h1.keep f (fun _ _ => id), h2.keep f⟩
theorem Size_spec {t : Th} {v : List Value} (w : World) (h : ThV w t v) (h1 : (t.refs.length : Int) ≤ 1000000000000) (h2 : (t.data.length : Int) ≤ 1000000000000) :
    CallC Pr f_gleanerref14_Thing_Size [.agg v.toArray] w (fun r w' => r = .int .i64 t.size ∧ Fr No w w') := by
  obtain ⟨rv, dv, e, ⟨a1, c1, e1, _⟩, ⟨a2, c2, e2, _⟩⟩ := h
  subst e
  subst e1
  subst e2
  refine call_sound T_ok fun_gleanerref14_Thing_Size rfl (by kernel_rfl) rfl (Kp ?_)
  refine NewC_blk (fun p w1 hp b1 f1 s1 => ?_)
  have b1 : Blk w1 p t_gleanerref14_Thing [.int .i64 t.st, .slice a1 t.refs.length c1, .slice a2 t.data.length c2] := b1
  refine LdC_blk (b1) rfl ?_
  refine LdC_blk (b1) rfl ?_
  refine ⟨congrArg (Value.int .i64) ?_, f1⟩
  unfold Th.size
  rw [wrap_i64 (n := 1 + (t.refs.length : Int)) (by omega) (by omega), wrap_i64 (by omega) (by omega)]
def inR14 (n : Int) (l : List Int) : Bool := l.all fun x => decide (0 ≤ x ∧ x ≤ n)
theorem refs14_spec {v : Value} {l : List Int} (n : Int) (w : World) (h : Ints w v l) (hl : (l.length : Int) ≤ 1000000000000) :
    CallC Pr f_gleanerref14_refs [v, .int .i64 n] w (fun r w' => r = .bool (inR14 n l) ∧ Fr No w w') := by
  obtain ⟨a, c, e, _⟩ := id h
  subst e
  refine call_sound T_ok fun_gleanerref14_refs rfl (by kernel_rfl) rfl (Kp ?_)
  refine LoopC_intro (α := Int) (fun i => [(0, .slice a l.length c), (1, .int .i64 n), (5, .int .i64 i)])
    (fun m i w1 => Fr No w w1 ∧ 0 ≤ i ∧ i ≤ l.length ∧ inR14 n (l.take i.toNat) = true ∧ m = (l.length - i).toNat)
    l.length 0 ⟨rfl, rfl, rfl, trivial⟩ ⟨Fr.refl _ _, Int.le_refl _, (show (0 : Int) ≤ l.length by omega), rfl, (show l.length = ((l.length : Int) - 0).toNat by omega)⟩ (fun m i w1 hJ => Kp ?_)
  obtain ⟨F1, i0, i1, hk, hm⟩ := hJ
  have i0 : 0 ≤ i := i0
  have i1 : i ≤ (l.length : Int) := i1
  have hm : m = (l.length - i).toNat := hm
  have hk : inR14 n (l.take i.toNat) = true := hk
  refine Br_dec (fun g => ?_) (fun g => ?_)
  rotate_left
  · have g : ¬ i < (l.length : Int) := g
    rw [List.take_of_length_le (by omega)] at hk
    exact ⟨by rw [hk]; rfl, F1⟩
  have g : i < (l.length : Int) := g
  have hi : i.toNat < l.length := by omega
  obtain ⟨x, rfl, hc⟩ := (h.keep F1 (fun _ _ => id)).cell hi
  obtain ⟨y, ey⟩ : ∃ y, y = l[i.toNat]'hi := ⟨_, rfl⟩
  rw [← ey] at hc
  have hy : l[i.toNat]? = some y := by rw [List.getElem?_eq_getElem hi, ey]
  have bad : ¬ (0 ≤ y ∧ y ≤ n) → inR14 n l = false := fun q => by
    unfold inR14
    rw [List.all_eq_false]
    exact ⟨y, List.mem_of_getElem? hy, by simpa using fun e => by omega⟩
  refine Sd_intro ((show 0 ≤ i ∧ i < (l.length : Int) from ⟨i0, g⟩)) ?_
  refine LdC_intro (v := .int .i64 y) (by rw [Nat.mul_one]; exact hc) ?_
  refine Br_dec (fun g1 => ?_) (fun g1 => ?_)
  · have g1 : y < 0 := g1
    exact ⟨by rw [bad (by omega)]; rfl, F1⟩
  have g1 : ¬ y < 0 := g1
  refine Sd_intro ((show 0 ≤ i ∧ i < (l.length : Int) from ⟨i0, g⟩)) ?_
  refine LdC_intro (v := .int .i64 y) (by rw [Nat.mul_one]; exact hc) ?_
  refine Br_dec (fun g2 => ?_) (fun g2 => ?_)
  · have g2 : y > n := g2
    exact ⟨by rw [bad (by omega)]; rfl, F1⟩
  have g2 : ¬ y > n := g2
  refine ⟨(l.length - (i + 1)).toNat, _, by omega, ?_, i + 1, rfl, F1, (show 0 ≤ i + 1 by omega), (show i + 1 ≤ (l.length : Int) by omega), ?_, rfl⟩
  · exact ⟨rfl, rfl, look_int rfl (wrap_i64 (by omega) (by omega)), trivial⟩
  · show inR14 n (l.take (i + 1).toNat) = true
    rw [show (i + 1).toNat = i.toNat + 1 by omega, List.take_add_one, hy]
    unfold inR14 at hk ⊢
    rw [List.all_append, hk]
    show (true && (decide (0 ≤ y ∧ y ≤ n) && true)) = true
    rw [decide_eq_true (by omega)]; rfl
end Go.Proofs.YtdhbpklmkibmbaaGreat
/- A plan as an argument. -/
namespace Go.Vc
open Go.ChangeShapes Go.WideShapes Go.ChangeAt Go.RowKit Go.Joins

/-- A row of whole numbers. -/
def IntsK (w : World) (k : IntKind) (v : Value) (l : List Int) : Prop := ∃ a c, v = .slice a l.length c ∧ (l = [] ∨ ∃ x, a = some x ∧ ∀ (i : Nat) (z : Int), l[i]? = some z → w.cell? (x.add i) = some (.int k z))
section
variable {H : Type} {enc : TypeId × Value → H} {P : Program} {w : World} {base : Nat}
theorem trod_ints {t e : TypeId} {k : IntKind} {fuel : Nat} {cs : List Value} {x : DataW H × List MemPlace} (ht : P.underlying t = some (.slice e)) (he : P.underlying e = some (.int k)) (hc : P.cellsOf e = 1)
    (h : DataW.trod enc P w base (fun _ => true) true fuel t cs = some x) : ∃ v l, cs = [v] ∧ IntsK w k v l ∧ (l.length : Int) ≤ 9223372036854775807 ∧ ∀ z ∈ l, (Lit.int k z).wf = true := by
  rcases open_ints ht he hc h with ⟨hcs, _⟩ | ⟨x, l, c, zs, hcs, _, hl, hm, hz, _, hcell, hwz⟩
  · exact ⟨_, [], hcs, ⟨none, 0, rfl, .inl rfl⟩, by decide, fun _ h => by cases h⟩
  · have hz : zs.length = c := by simpa using hz
    have hlen : (zs.take l).length = l := by rw [List.length_take]; omega
    refine ⟨_, zs.take l, hcs, ⟨some x, c, by rw [hlen], .inr ⟨x, rfl, fun i z hi => ?_⟩⟩, ?_, fun z hz => hwz z (List.mem_of_mem_take hz)⟩
    · rw [List.getElem?_take] at hi
      split at hi
      · have hlt := (List.getElem?_eq_some_iff.1 hi).1
        rw [hcell i hlt]
        simp [List.getD, hi]
      · cases hi
    · rw [hlen]
      have : maxLen = 9223372036854775807 := rfl
      omega
theorem trod_field {t : TypeId} {fs : Array Field} {fuel : Nat} {cs : List Value} {x : DataW H × List MemPlace} {sp : Nat → Bool} {held : Bool} (hs : P.underlying t = some (.struct fs)) (h : DataW.trod enc P w base sp held fuel t cs = some x) {j o : Nat} {u : TypeId}
    (hj : fs[j]?.map (fun f => (f.type, f.offset)) = some (u, o)) : ∃ n y, DataW.trod enc P w base sp held n u ((cs.drop o).take (P.cellsOf u)) = some y := by
  obtain ⟨xs, n, _, _, _, hlen, hx⟩ := DataW.trod_struct hs h
  cases hf : fs[j]? with
  | none => rw [hf] at hj; cases hj
  | some f =>
    rw [hf] at hj
    injection hj with hj
    injection hj with h1 h2
    have hj' : j < fs.size := (Array.getElem?_eq_some_iff.1 hf).1
    refine ⟨n, xs[j]'(by omega), ?_⟩
    rw [← h1, ← h2]
    exact (hx j f hf).trans (List.getElem?_eq_getElem (by omega))
theorem trod_slice_of {t e : TypeId} {n : Nat} {fuel : Nat} {cs : List Value} {x : DataW H × List MemPlace} {Q : List Value → Prop} (ht : P.underlying t = some (.slice e)) (hc : P.cellsOf e = n)
    (h : DataW.trod enc P w base (fun _ => true) true fuel t cs = some x) (hQ : ∀ m y cs', cs'.length = n → DataW.trod enc P w base (fun _ => true) true m e cs' = some y → Q cs') :
    ∃ a len cap, cs = [.slice a len cap] ∧ (len : Int) ≤ 9223372036854775807 ∧ ∃ css : List (List Value), css.length = len ∧ ∀ (i : Nat) (q : List Value), css[i]? = some q → Q q ∧ ∃ x, a = some x ∧ ∀ (j : Nat) (v : Value), q[j]? = some v → w.cell? ((x.add (i * n)).add j) = some v := by
  rcases Deep.open_slice ht h with ⟨hcs, _⟩ | ⟨x, l, c, m, n', D, Pl, hcs, _, hl, hm, hmm, _, hx⟩
  · exact ⟨none, 0, 0, hcs, by decide, [], rfl, fun i q hi => by cases hi⟩
  · have hmm : m = c := by simpa using hmm
    rw [hc] at hx
    have one : ∀ i, i < l → ∃ q : List Value, Q q ∧ ∀ (j : Nat) (v : Value), q[j]? = some v → w.cell? ((x.add (i * n)).add j) = some v := by
      intro i hi
      obtain ⟨q, h1, h2⟩ := hx i (by omega)
      obtain ⟨_, h3, h4⟩ := World.cells?_some h1
      exact ⟨q, hQ _ _ _ h3 h2, fun j v hj => by rw [h4 j (by have := (List.getElem?_eq_some_iff.1 hj).1; omega)]; exact hj⟩
    obtain ⟨f, hfn⟩ := Deep.choose_lt (α := List Value) (p := fun i q => Q q ∧ ∀ (j : Nat) (v : Value), q[j]? = some v → w.cell? ((x.add (i * n)).add j) = some v) one
    refine ⟨some x, l, c, hcs, ?_, (List.range l).map f, by simp, fun i q hi => ?_⟩
    · have : maxLen = 9223372036854775807 := rfl
      omega
    · rw [List.getElem?_map] at hi
      by_cases hil : i < l
      · rw [List.getElem?_range hil] at hi
        injection hi with hi
        subst hi
        exact ⟨(hfn i hil).1, x, rfl, (hfn i hil).2⟩
      · rw [List.getElem?_eq_none (by simp; omega)] at hi; cases hi
end
end Go.Vc
namespace Go.Proofs.YtdhbpklmkibmbaaGreat
open Go.Vc

def i64B (n : Int) : Prop := -9223372036854775808 ≤ n ∧ n ≤ 9223372036854775807
def u64B (n : Int) : Prop := 0 ≤ n ∧ n ≤ 18446744073709551615
def lenB (n : Nat) : Prop := (n : Int) ≤ 9223372036854775807
theorem i64B_of {z : Int} (h : (Lit.int .i64 z).wf = true) : i64B z := by
  simp [Lit.wf, IntKind.min, IntKind.max, IntKind.signed, IntKind.bits] at h
  unfold i64B; omega
theorem u64B_of {z : Int} (h : (Lit.int .u64 z).wf = true) : u64B z := by
  simp [Lit.wf, IntKind.min, IntKind.max, IntKind.signed, IntKind.bits] at h
  unfold u64B; omega
theorem IntsK.ints {w : World} {v : Value} {l : List Int} (h : IntsK w .i64 v l) : Ints w v l := h
theorem IntsK.uc {w : World} {v : Value} {l : List Int} (h : IntsK w .u64 v l) : UC w v l := by
  obtain ⟨a, c, e, h⟩ := h
  refine ⟨a, c, e, fun i z hi => ?_⟩
  rcases h with h | ⟨x, hx, hc⟩
  · rw [h] at hi; cases hi
  · exact ⟨x, hx, hc i z hi⟩
/-- What a thing's numbers may be. -/
structure ThOk (t : Th) : Prop where
  st : i64B t.st
  refs : ∀ r ∈ t.refs, i64B r
  data : ∀ d ∈ t.data, u64B d
  rl : lenB t.refs.length
  dl : lenB t.data.length
/-- A row of things. -/
def ThingsV (w : World) (v : Value) (ts : List Th) : Prop := ∃ a c, v = .slice a ts.length c ∧ lenB ts.length ∧ ∀ (i : Nat) (t : Th), ts[i]? = some t → ThOk t ∧ ∃ x tv, a = some x ∧ ThV w t tv ∧ ∀ (j : Nat) (u : Value), tv[j]? = some u → w.cell? ((x.add (i * 3)).add j) = some u
def HandV (w : World) (v : Value) (hs : List (List Int)) : Prop := ∃ a c, v = .slice a hs.length c ∧ lenB hs.length ∧ ∀ (i : Nat) (l : List Int), hs[i]? = some l → (∀ r ∈ l, i64B r) ∧ lenB l.length ∧ ∃ x u, a = some x ∧ Ints w u l ∧ w.cell? (x.add i) = some u
structure Pl where
  c : Cfg
  ts : List Th
  hs : List (List Int)
def planL (p : Pl) (tv hv : Value) : List Value := cfgL p.c ++ [tv, hv]
/-- A plan's value. -/
def PlanV (w : World) (p : Pl) (v : Value) : Prop := ∃ tv hv, v = .agg (planL p tv hv).toArray ∧ ThingsV w tv p.ts ∧ HandV w hv p.hs
theorem cell_keep {w w' : World} {x : Addr} {v : Value} (h : w.cell? x = some v) (f : Fr No w w') : w'.cell? x = some v := by
  have hb := World.block_lt_of_cell? w _ h
  unfold World.cell? at h ⊢
  rw [f.blk _ hb (fun e => e)]; exact h
theorem ThingsV.keep {w w' : World} {v : Value} {ts : List Th} (h : ThingsV w v ts) (f : Fr No w w') : ThingsV w' v ts := by
  obtain ⟨a, c, e, hl, h⟩ := h
  refine ⟨a, c, e, hl, fun i t hi => ?_⟩
  obtain ⟨h1, x, tv, h2, h3, h4⟩ := h i t hi
  exact ⟨h1, x, tv, h2, h3.keep f, fun j u hj => cell_keep (h4 j u hj) f⟩
theorem HandV.keep {w w' : World} {v : Value} {hs : List (List Int)} (h : HandV w v hs) (f : Fr No w w') : HandV w' v hs := by
  obtain ⟨a, c, e, hl, h⟩ := h
  refine ⟨a, c, e, hl, fun i t hi => ?_⟩
  obtain ⟨h1, h2, x, u, h3, h4, h5⟩ := h i t hi
  exact ⟨h1, h2, x, u, h3, h4.keep f (fun _ _ => id), cell_keep h5 f⟩
theorem PlanV.keep {w w' : World} {v : Value} {p : Pl} (h : PlanV w p v) (f : Fr No w w') : PlanV w' p v := by
  obtain ⟨tv, hv, e, h1, h2⟩ := h
  exact ⟨tv, hv, e, h1.keep f, h2.keep f⟩
/-- The types of a plan. -/
structure PlanTy (P : Program) (t tc tt te t0 t1 t2 e1 e2 th tg eg : TypeId) (fs fc fe : Array Field) : Prop where
  hs : P.underlying t = some (.struct fs)
  hs0 : fs[0]?.map (fun f => (f.type, f.offset)) = some (tc, 0)
  hs1 : fs[1]?.map (fun f => (f.type, f.offset)) = some (tt, 14)
  hs2 : fs[2]?.map (fun f => (f.type, f.offset)) = some (th, 15)
  hn : P.cellsOf t = 16
  hc : P.underlying tc = some (.struct fc)
  hcf : intFields P fc = true
  hcn : P.cellsOf tc = fc.size
  hcz : fc.size = 14
  htt : P.underlying tt = some (.slice te)
  httn : P.cellsOf tt = 1
  hte : P.underlying te = some (.struct fe)
  hten : P.cellsOf te = 3
  he0 : fe[0]?.map (fun f => (f.type, f.offset)) = some (t0, 0)
  he1 : fe[1]?.map (fun f => (f.type, f.offset)) = some (t1, 1)
  he2 : fe[2]?.map (fun f => (f.type, f.offset)) = some (t2, 2)
  ht0 : P.underlying t0 = some (.int .i64)
  ht0n : P.cellsOf t0 = 1
  ht1 : P.underlying t1 = some (.slice e1)
  ht1n : P.cellsOf t1 = 1
  ht1e : P.underlying e1 = some (.int .i64)
  ht1c : P.cellsOf e1 = 1
  ht2 : P.underlying t2 = some (.slice e2)
  ht2n : P.cellsOf t2 = 1
  ht2e : P.underlying e2 = some (.int .u64)
  ht2c : P.cellsOf e2 = 1
  hth : P.underlying th = some (.slice tg)
  hthn : P.cellsOf th = 1
  htg : P.underlying tg = some (.slice eg)
  htgn : P.cellsOf tg = 1
  htge : P.underlying eg = some (.int .i64)
  htgc : P.cellsOf eg = 1
section
variable {H : Type} {enc : TypeId × Value → H} {P : Program} {w : World} {base : Nat} {t tc tt te t0 t1 t2 e1 e2 th tg eg : TypeId} {fs fc fe : Array Field}
theorem one3 {cs : List Value} (h : cs.length = 3) : ∃ a b c, cs = [a, b, c] := by
  match cs, h with
  | [a, b, c], _ => exact ⟨a, b, c, rfl⟩
theorem open_thing (T : PlanTy P t tc tt te t0 t1 t2 e1 e2 th tg eg fs fc fe) (m : Nat) (y : DataW H × List MemPlace) (cs : List Value) (hl : cs.length = 3) (h : DataW.trod enc P w base (fun _ => true) true m te cs = some y) : ∃ u, ThOk u ∧ ThV w u cs := by
  obtain ⟨a, b, d, rfl⟩ := one3 hl
  obtain ⟨n0, y0, h0⟩ := trod_field T.hte h T.he0
  obtain ⟨n1, y1, h1⟩ := trod_field T.hte h T.he1
  obtain ⟨n2, y2, h2⟩ := trod_field T.hte h T.he2
  rw [T.ht0n] at h0
  rw [T.ht1n] at h1
  rw [T.ht2n] at h2
  obtain ⟨z, q0, _, w0⟩ := DataW.trod_int T.ht0 h0
  obtain ⟨v1, l1, q1, i1, n1, w1⟩ := trod_ints T.ht1 T.ht1e T.ht1c h1
  obtain ⟨v2, l2, q2, i2, n2, w2⟩ := trod_ints T.ht2 T.ht2e T.ht2c h2
  have e0 : [a] = [Value.int .i64 z] := q0
  have e1 : [b] = [v1] := q1
  have e2 : [d] = [v2] := q2
  obtain rfl : a = Value.int .i64 z := by injection e0
  obtain rfl : b = v1 := by injection e1
  obtain rfl : d = v2 := by injection e2
  exact ⟨⟨z, l1, l2⟩, ⟨i64B_of w0, fun r hr => i64B_of (w1 r hr), fun r hr => u64B_of (w2 r hr), n1, n2⟩, _, _, rfl, IntsK.ints i1, IntsK.uc i2⟩
instance : Inhabited Th := ⟨⟨0, [], []⟩⟩
theorem choose_list {α β : Type} [Inhabited β] {R : Nat → α → β → Prop} : ∀ (l : List α), (∀ (i : Nat) (x : α), l[i]? = some x → ∃ y, R i x y) → ∃ m : List β, m.length = l.length ∧ ∀ (i : Nat) (y : β), m[i]? = some y → ∃ x, l[i]? = some x ∧ R i x y := by
  intro l h
  have one : ∀ i, i < l.length → ∃ y, ∃ x, l[i]? = some x ∧ R i x y := fun i hi => by
    obtain ⟨y, hy⟩ := h i _ (List.getElem?_eq_getElem hi)
    exact ⟨y, _, List.getElem?_eq_getElem hi, hy⟩
  obtain ⟨f, hf⟩ := Deep.choose_lt (α := β) (p := fun i y => ∃ x, l[i]? = some x ∧ R i x y) one
  refine ⟨(List.range l.length).map f, by simp, fun i y hi => ?_⟩
  rw [List.getElem?_map] at hi
  by_cases q : i < l.length
  · rw [List.getElem?_range q] at hi
    injection hi with hi
    subst hi
    exact hf i q
  · rw [List.getElem?_eq_none (by simp; omega)] at hi; cases hi
theorem cfg_of {zs : List Int} (h : zs.length = 14) : ∃ c : Cfg, zs.map (Value.int .i64) = cfgL c := by
  match zs, h with
  | [a0, a1, a2, a3, a4, a5, a6, a7, a8, a9, a10, a11, a12, a13], _ => exact ⟨⟨a0, a1, a2, a3, a4, a5, a6, a7, a8, a9, a10, a11, a12, a13⟩, rfl⟩
theorem open_plan {v : Value} {d : DataW H} {p : List MemPlace} {r : Reach} {b0 : Nat} (T : PlanTy P t tc tt te t0 t1 t2 e1 e2 th tg eg fs fc fe) (hv : Value.okWide P w r b0 t v) (h : DataW.Trod enc P w base (fun _ => true) true t v d p) : ∃ q : Pl, PlanV w q v := by
  obtain ⟨cs, rfl, hsz⟩ := Go.WideShapes.okWide_struct T.hs hv
  obtain ⟨fuel, ht⟩ := h
  have hsz : cs.toList.length = 16 := by simpa using hsz.trans T.hn
  have ht : DataW.trod enc P w base (fun _ => true) true fuel t cs.toList = some (d, p) := ht
  obtain ⟨n0, y0, h0⟩ := trod_field T.hs ht T.hs0
  obtain ⟨n1, y1, h1⟩ := trod_field T.hs ht T.hs1
  obtain ⟨n2, y2, h2⟩ := trod_field T.hs ht T.hs2
  rw [T.hcn, T.hcz] at h0
  rw [T.httn] at h1
  rw [T.hthn] at h2
  -- the configuration
  obtain ⟨c, hc⟩ : ∃ c : Cfg, (cs.toList.drop 0).take 14 = cfgL c := by
    obtain ⟨xs, n, _, _, hl, hlen, hx⟩ := DataW.trod_struct T.hc h0
    obtain ⟨q, hq⟩ : ∃ q, q = (cs.toList.drop 0).take 14 := ⟨_, rfl⟩
    rw [← hq] at hx ⊢
    have ql : q.length = 14 := by rw [hq, List.length_take, List.length_drop, hsz]; rfl
    have each : ∀ j, j < 14 → ∃ z : Int, q[j]? = some (.int .i64 z) := by
      intro j hj
      have hjf : fc[j]? = some (fc[j]'(by rw [T.hcz]; exact hj)) := Array.getElem?_eq_getElem (by rw [T.hcz]; exact hj)
      have g1 := List.all_eq_true.1 T.hcf j (List.mem_range.2 (by rw [T.hcz]; exact hj))
      rw [hjf] at g1
      simp only [Bool.and_eq_true] at g1
      obtain ⟨g2, g3, g4⟩ := g1
      have g2 := Nat.eq_of_beq_eq_true g2
      have g3 := Nat.eq_of_beq_eq_true g3
      have hu : P.underlying (fc[j]'(by rw [T.hcz]; exact hj)).type = some (.int .i64) := by
        split at g4
        · assumption
        · cases g4
      have hxj := hx j _ hjf
      rw [g2, g3] at hxj
      have hjq : j < q.length := by omega
      have hd : (q.drop j).take 1 = [q[j]] := by rw [List.drop_eq_getElem_cons hjq]; rfl
      rw [hd, List.getElem?_eq_getElem (show j < xs.length by rw [hlen, T.hcz]; exact hj)] at hxj
      obtain ⟨z, e, _, _⟩ := DataW.trod_int hu hxj
      injection e with e _
      exact ⟨z, by rw [List.getElem?_eq_getElem hjq, e]⟩
    have : q = (q.map fun v => cellInt (some v)).map (Value.int .i64) := by
      apply List.ext_getElem?
      intro j
      by_cases hj : j < 14
      · obtain ⟨z, e⟩ := each j hj
        simp [e, cellInt]
      · rw [List.getElem?_eq_none (by omega), List.getElem?_eq_none (by simp; omega)]
    rw [this]
    exact cfg_of (by simp; omega)
  obtain ⟨a1, l1, c1, q1, b1, css, k1, g1⟩ := trod_slice_of (Q := fun q => ∃ u, ThOk u ∧ ThV w u q) T.htt T.hten h1 (fun m y cs' hl h => open_thing T m y cs' hl h)
  obtain ⟨a2, l2, c2, q2, b2, hss, k2, g2⟩ := trod_slice_of (Q := fun q => ∃ v l, q = [v] ∧ IntsK w .i64 v l ∧ (l.length : Int) ≤ 9223372036854775807 ∧ ∀ z ∈ l, (Lit.int .i64 z).wf = true) T.hth T.htgn h2 (fun m y cs' hl h => trod_ints T.htg T.htge T.htgc h)
  obtain ⟨ts, tl, ht⟩ := choose_list (R := fun i q u => ThOk u ∧ ThV w u q) css (fun i q hi => (g1 i q hi).1)
  obtain ⟨hs, hl, hh⟩ := choose_list (R := fun i q (l : List Int) => ∃ v, q = [v] ∧ IntsK w .i64 v l ∧ (l.length : Int) ≤ 9223372036854775807 ∧ ∀ z ∈ l, (Lit.int .i64 z).wf = true) hss (fun i q hi => by obtain ⟨⟨v, l, r⟩, _⟩ := g2 i q hi; exact ⟨l, v, r⟩)
  refine ⟨⟨c, ts, hs⟩, .slice a1 l1 c1, .slice a2 l2 c2, ?_, ⟨a1, c1, by rw [tl, k1], by unfold lenB; rw [tl, k1]; exact b1, fun i u hi => ?_⟩, ⟨a2, c2, by rw [hl, k2], by unfold lenB; rw [hl, k2]; exact b2, fun i l hi => ?_⟩⟩
  · have e1 : cs.toList = (cs.toList.drop 0).take 14 ++ ((cs.toList.drop 14).take 1 ++ (cs.toList.drop 15).take 1) := by
      match hcs : cs.toList, hsz with
      | [x0, x1, x2, x3, x4, x5, x6, x7, x8, x9, x10, x11, x12, x13, x14, x15], _ => rfl
    rw [hc, q1, q2] at e1
    have e2 : cs = (cfgL c ++ ([Value.slice a1 l1 c1] ++ [Value.slice a2 l2 c2])).toArray := by rw [← e1]
    rw [e2]; rfl
  · obtain ⟨q, hq, r1, r2⟩ := ht i u hi
    obtain ⟨_, x, hx, hc⟩ := g1 i q hq
    exact ⟨r1, x, q, hx, r2, hc⟩
  · obtain ⟨q, hq, v, e, r1, r2, r3⟩ := hh i l hi
    obtain ⟨_, x, hx, hc⟩ := g2 i q hq
    refine ⟨fun r hr => i64B_of (r3 r hr), r2, x, v, hx, IntsK.ints r1, ?_⟩
    have := hc 0 v (by rw [e]; rfl)
    rw [Nat.mul_one] at this
    exact this
end
end Go.Proofs.YtdhbpklmkibmbaaGreat
/- May a plan be? -/
namespace Go.Proofs.YtdhbpklmkibmbaaGreat
open Go.Vc

/-- What a right plan is. -/
structure PlanOk (p : Pl) : Prop where
  v : Valid p.c
  words : p.c.c1 * P p.c ≤ 4096
  tl : p.ts.length ≤ 200
  hl : (p.hs.length : Int) ≤ p.c.c3
  t : ∀ t ∈ p.ts, 2 ≤ t.size ∧ t.size ≤ min 1048576 (p.c.c1 * P p.c - P p.c) ∧ (t.size > P p.c / 2 ↔ t.st = 4) ∧ 1 ≤ t.st ∧ t.st ≤ 4 ∧ ∀ r ∈ t.refs, 0 ≤ r ∧ r ≤ p.ts.length
  h : ∀ l ∈ p.hs, (l.length : Int) ≤ p.c.c4 ∧ ∀ r ∈ l, 0 ≤ r ∧ r ≤ p.ts.length
theorem size_nat (t : Th) : t.size = ((1 + t.refs.length + t.data.length : Nat) : Int) := by unfold Th.size; omega
theorem PlanOk.size {p : Pl} (h : PlanOk p) {t : Th} (ht : t ∈ p.ts) : t.size ≤ 1048576 ∧ t.size ≤ p.c.c1 * P p.c - P p.c := by
  have := (h.t t ht).2.1
  omega
theorem inR14_all {n : Int} {l : List Int} (h : inR14 n l = true) : ∀ r ∈ l, 0 ≤ r ∧ r ≤ n := fun r hr => by
  have := List.all_eq_true.1 h r hr
  exact of_decide_eq_true this
def szW (t : Th) : Int := IntKind.i64.wrap (IntKind.i64.wrap (1 + (t.refs.length : Int)) + (t.data.length : Int))
theorem wrapE (n : Int) : IntKind.i64.wrap n = (n + 9223372036854775808) % 18446744073709551616 - 9223372036854775808 := by
  simp [IntKind.wrap, IntKind.signed, IntKind.bits]
  try split
  all_goals omega
theorem szW_eq {t : Th} (h : ThOk t) (h2 : 2 ≤ szW t) : szW t = t.size := by
  have a := h.rl
  have b := h.dl
  unfold lenB at a b
  unfold szW at h2 ⊢
  unfold Th.size
  rw [wrapE, wrapE] at h2 ⊢
  omega
theorem Size_any {t : Th} {v : List Value} (w : World) (h : ThV w t v) :
    CallC Pr f_gleanerref14_Thing_Size [.agg v.toArray] w (fun r w' => r = .int .i64 (szW t) ∧ Fr No w w') := by
  obtain ⟨rv, dv, e, ⟨a1, c1, e1, _⟩, ⟨a2, c2, e2, _⟩⟩ := h
  subst e
  subst e1
  subst e2
  refine call_sound T_ok fun_gleanerref14_Thing_Size rfl (by kernel_rfl) rfl (Kp ?_)
  refine NewC_blk (fun p w1 hp b1 f1 s1 => ?_)
  have b1 : Blk w1 p t_gleanerref14_Thing [.int .i64 t.st, .slice a1 t.refs.length c1, .slice a2 t.data.length c2] := b1
  refine LdC_blk (b1) rfl ?_
  refine LdC_blk (b1) rfl ?_
  exact ⟨rfl, f1⟩
/-- What Right asks of a thing. -/
def ThGood (p : Pl) (t : Th) : Prop := 2 ≤ t.size ∧ t.size ≤ min 1048576 (p.c.c1 * P p.c - P p.c) ∧ (t.size > P p.c / 2 ↔ t.st = 4) ∧ 1 ≤ t.st ∧ t.st ≤ 4 ∧ ∀ r ∈ t.refs, 0 ≤ r ∧ r ≤ p.ts.length
def RightV (p : Pl) (r : Value) : Prop := ∃ ok : Bool, r = .bool ok ∧ (ok = true → PlanOk p)
theorem RightV.no (p : Pl) : RightV p (.bool false) := ⟨false, rfl, fun h => by cases h⟩
theorem Right_spec {p : Pl} {v : Value} (w : World) (h : PlanV w p v) : CallC Pr f_gleanerref14_Right [v] w (fun r w' => RightV p r ∧ Fr No w w') := by
  obtain ⟨tv, hv, rfl, hT, hH⟩ := h
  obtain ⟨ta, tc, rfl, tl, ht⟩ := id hT
  obtain ⟨ha, hc, rfl, hl, hh⟩ := id hH
  unfold lenB at tl hl
  refine call_sound T_ok fun_gleanerref14_Right rfl (by kernel_rfl) rfl (Kp ?_)
  refine NewC_blk (fun p1 w1 e_p1 b1 f1 s1 => ?_)
  have b1 : Blk w1 p1 t_gleanerref14_Plan (planL p (.slice ta p.ts.length tc) (.slice ha p.hs.length hc)) := b1
  refine LdN_blk (vs := cfgL p.c) (b1) rfl rfl ?_
  refine CallC_intro (RNew_spec p.c w1) (fun v w2 ⟨hv, f2⟩ => ?_)
  have b2 := b1.keep f2 id
  have F2 := f1.no f2
  rcases hv with ⟨hV, hv⟩ | ⟨hV, hv⟩
  rotate_left
  · subst hv
    refine NewC_blk (fun p3 w3 e_p3 b3 f3 s3 => ?_)
    refine StN_blk (b3) rfl (Nat.le_of_ble_eq_true rfl) (fun w4 b4 f4 s4 => ?_)
    have f34 : Fr No w2 w4 := f3.new f4 (fun _ _ e => e) (fun k e => by omega)
    exact ⟨RightV.no p, F2.no f34⟩
  subst hv
  refine NewC_blk (fun p3 w3 e_p3 b3 f3 s3 => ?_)
  refine StN_blk (b3) rfl (Nat.le_of_ble_eq_true rfl) (fun w4 b4 f4 s4 => ?_)
  have b4 : Blk w4 p3 t_gleanerref02_Geom (geoL (p.c.c1 * P p.c) (P p.c) (Q p.c) p.c.c1 (p.c.c1 * P p.c / Q p.c) (min 1048576 (p.c.c1 * P p.c - P p.c))) := b4
  have f34 : Fr No w2 w4 := f3.new f4 (fun _ _ e => e) (fun k e => by omega)
  have b14 := b2.keep f34 id
  have F4 := F2.no f34
  obtain ⟨pv, epv⟩ : ∃ pv, pv = planL p (.slice ta p.ts.length tc) (.slice ha p.hs.length hc) := ⟨_, rfl⟩
  refine LdC_blk (b4) rfl ?_
  refine Br_dec (fun g1 => ?_) (fun g1 => ?_)
  · exact ⟨RightV.no p, F4⟩
  have g1 : ¬ p.c.c1 * P p.c > 4096 := g1
  refine LdC_blk (b14) rfl ?_
  refine Br_dec (fun g2 => ?_) (fun g2 => ?_)
  · exact ⟨RightV.no p, F4⟩
  have g2 : ¬ (p.ts.length : Int) > 200 := g2
  refine LdC_blk (b14) rfl ?_
  refine LdC_blk (b14) rfl ?_
  refine Br_dec (fun g3 => ?_) (fun g3 => ?_)
  · exact ⟨RightV.no p, F4⟩
  have g3 : ¬ (p.hs.length : Int) > p.c.c3 := g3
  refine LoopC_intro (α := Int) (fun i => [(1, .pointer (some ⟨p1, 0, none⟩)), (3, .pointer (some ⟨p3, 0, none⟩)), (5, .int .i64 i)])
    (fun m i w' => Fr No w4 w' ∧ 0 ≤ i ∧ i ≤ p.ts.length ∧ (∀ (j : Nat) (t : Th), (j : Int) < i → p.ts[j]? = some t → ThGood p t) ∧ m = (p.ts.length - i).toNat)
    (p.ts.length - 0 : Int).toNat 0 ⟨rfl, rfl, rfl, trivial⟩ ⟨Fr.refl _ _, Int.le_refl _, (show (0 : Int) ≤ p.ts.length by omega), fun j t h => absurd h (by omega), rfl⟩ (fun m i w5 hJ => Kp ?_)
  obtain ⟨f5, i0, i1, good, hm⟩ := hJ
  have i0 : 0 ≤ i := i0
  have i1 : i ≤ (p.ts.length : Int) := i1
  have hm : m = (p.ts.length - i).toNat := hm
  have b15 := b14.keep f5 id
  have b5 := b4.keep f5 id
  have F5 := F4.no f5
  refine LdC_blk (b15) rfl ?_
  refine Br_dec (fun g => ?_) (fun g => ?_)
  · have g : i < (p.ts.length : Int) := g
    have hi : i.toNat < p.ts.length := by omega
    obtain ⟨t, hti⟩ : ∃ t, p.ts[i.toNat]? = some t := ⟨_, List.getElem?_eq_getElem hi⟩
    obtain ⟨a', c', e, _, hth⟩ := hT.keep F5
    obtain rfl : ta = a' := by injection e
    obtain ⟨tok, x, tv, ea, htv, hcell⟩ := hth i.toNat t hti
    subst ea
    obtain ⟨rv, dv, etv, hrv, hdv⟩ := id htv
    subst etv
    obtain ⟨ra, rc, rfl, _⟩ := id hrv
    obtain ⟨da, dc, rfl, _⟩ := id hdv
    refine LdC_blk (b15) rfl ?_
    refine Sd_intro ((show 0 ≤ i ∧ i < (p.ts.length : Int) from ⟨i0, g⟩)) ?_
    refine LdN_cells (vs := [.int .i64 t.st, .slice ra t.refs.length rc, .slice da t.data.length dc]) hcell rfl (Kp ?_)
    refine NewC_blk (fun p6 w6 e_p6 b6 f6 s6 => ?_)
    refine StN_blk (b6) rfl (Nat.le_of_ble_eq_true rfl) (fun w7 b7 f7 s7 => ?_)
    have b7 : Blk w7 p6 t_gleanerref14_Thing [.int .i64 t.st, .slice ra t.refs.length rc, .slice da t.data.length dc] := b7
    have f67 : Fr No w5 w7 := f6.new f7 (fun _ _ e => e) (fun k e => by omega)
    have b17 := b15.keep f67 id
    have b57 := b5.keep f67 id
    have F7 := F5.no f67
    have D7 : Fr No w7 w7.drew := Fr.drew w7
    have htv7 := htv.keep f67
    refine AnyC_plan T_ok mixed (planO [0,1,1002,1003,4]) ((fun w' => Blk w' p1 t_gleanerref14_Plan (planL p (.slice (some x) p.ts.length tc) (.slice ha p.hs.length hc)) ∧ Blk w' p3 t_gleanerref02_Geom (geoL (p.c.c1 * P p.c) (P p.c) (Q p.c) p.c.c1 (p.c.c1 * P p.c / Q p.c) (min 1048576 (p.c.c1 * P p.c - P p.c))) ∧ Blk w' p6 t_gleanerref14_Thing [.int .i64 t.st, .slice ra t.refs.length rc, .slice da t.data.length dc])) (by kernel_rfl) (by kernel_rfl) (⟨b17.keep (Fr.drew _) id, b57.keep (Fr.drew _) id, b7.keep (Fr.drew _) id⟩) (Kp ?_)
    refine LdSN_of (vs := geoL (p.c.c1 * P p.c) (P p.c) (Q p.c) p.c.c1 (p.c.c1 * P p.c / Q p.c) (min 1048576 (p.c.c1 * P p.c - P p.c))) (fun w' hw => hw.2.1) rfl rfl (Kp ?_)
    refine LdSN_of (vs := [.int .i64 t.st, .slice ra t.refs.length rc, .slice da t.data.length dc]) (fun w' hw => hw.2.2) rfl rfl (Kp ?_)
    refine ⟨Kp ?_, trivial⟩
    refine CallC_intro (Size_any _ (htv7.keep D7)) (fun v w8 ⟨hv, f8⟩ => ?_)
    subst hv
    have f78 := D7.no f8
    refine Sd_intro ⟨b17.keep f78 id, b57.keep f78 id, b7.keep f78 id⟩ (Kp ?_)
    refine ⟨Kp ?_, trivial⟩
    have hp := P_le hV
    refine CallC_intro (RBig_spec _ _ _ _ _ _ (szW t) (show 0 ≤ P p.c by omega) (show P p.c ≤ 4194304 by omega) _) (fun v w9 ⟨hv, f9⟩ => ?_)
    subst hv
    have f79 := f78.no f9
    have b19 := b17.keep f79 id
    have b59 := b57.keep f79 id
    have b79 := b7.keep f79 id
    have F9 := F7.no f79
    have htv9 := htv7.keep f79
    have F7' := f67.no f79
    have D9 : Fr No w9 w9.drew := Fr.drew w9
    refine Sd_intro ⟨b19, b59, b79⟩ (Kp ?_)
    refine AnyC_plan T_ok mixed (planO [0,1001,2,3,4,6,7,1005,8,9,10,11,12,13,14,15,16,17,18,19,20,21,22,23,24,25,26,27,28,29,30,31,32,1033,34,35]) ((fun w' => Blk w' p1 t_gleanerref14_Plan (planL p (.slice (some x) p.ts.length tc) (.slice ha p.hs.length hc)) ∧ Blk w' p3 t_gleanerref02_Geom (geoL (p.c.c1 * P p.c) (P p.c) (Q p.c) p.c.c1 (p.c.c1 * P p.c / Q p.c) (min 1048576 (p.c.c1 * P p.c - P p.c))) ∧ Blk w' p6 t_gleanerref14_Thing [.int .i64 t.st, .slice ra t.refs.length rc, .slice da t.data.length dc])) (by kernel_rfl) (by kernel_rfl) (⟨b19.keep (Fr.drew _) id, b59.keep (Fr.drew _) id, b79.keep (Fr.drew _) id⟩) (Kp ?_)
    refine LdSN_of (vs := [.int .i64 t.st, .slice ra t.refs.length rc, .slice da t.data.length dc]) (fun w' hw => hw.2.2) rfl rfl (Kp ?_)
    refine ⟨Kp ?_, trivial⟩
    refine CallC_intro (Size_any _ (htv9.keep D9)) (fun v w10 ⟨hv, f10⟩ => ?_)
    subst hv
    have g10 := D9.no f10
    refine Sd_intro ⟨b19.keep g10 id, b59.keep g10 id, b79.keep g10 id⟩ (Kp ?_)
    have no : ∀ {w'}, Fr No w9 w' → RightV p (.bool false) ∧ Fr No w w' := fun f => ⟨RightV.no p, F9.no f⟩
    refine Br_dec (fun q1 => ?_) (fun q1 => ?_)
    · refine ⟨Kp ?_, trivial⟩
      refine ⟨Kp ?_, trivial⟩
      exact ⟨(no g10).1, (no g10).2⟩
    have q1 : ¬ szW t < 2 := q1
    refine LdSN_of (vs := [.int .i64 t.st, .slice ra t.refs.length rc, .slice da t.data.length dc]) (fun w' hw => hw.2.2) rfl rfl (Kp ?_)
    refine LdS_of (fun w' hw => hw.2.1) rfl (Kp ?_)
    refine ⟨Kp ?_, trivial⟩
    refine CallC_intro (Size_any _ (htv9.keep g10)) (fun v w11 ⟨hv, f11⟩ => ?_)
    subst hv
    have g11 := g10.no f11
    refine Sd_intro ⟨b19.keep g11 id, b59.keep g11 id, b79.keep g11 id⟩ (Kp ?_)
    refine Br_dec (fun q2 => ?_) (fun q2 => ?_)
    · refine ⟨Kp ?_, trivial⟩
      exact ⟨(no g11).1, (no g11).2⟩
    have q2 : ¬ szW t > min 1048576 (p.c.c1 * P p.c - P p.c) := q2
    refine LdS_of (fun w' hw => hw.2.2) rfl (Kp ?_)
    refine Br_intro (fun q3 => ?_) (fun q3 => ?_)
    · refine ⟨Kp ?_, trivial⟩
      exact ⟨(no g11).1, (no g11).2⟩
    refine LdS_of (fun w' hw => hw.2.2) rfl (Kp ?_)
    refine Br_dec (fun q4 => ?_) (fun q4 => ?_)
    · refine ⟨Kp ?_, trivial⟩
      exact ⟨(no g11).1, (no g11).2⟩
    have q4 : ¬ t.st < 1 := q4
    refine LdS_of (fun w' hw => hw.2.2) rfl (Kp ?_)
    refine Br_dec (fun q5 => ?_) (fun q5 => ?_)
    · refine ⟨Kp ?_, trivial⟩
      exact ⟨(no g11).1, (no g11).2⟩
    have q5 : ¬ t.st > 4 := q5
    refine LdS_of (fun w' hw => hw.2.2) rfl (Kp ?_)
    refine LdS_of (fun w' hw => hw.1) rfl (Kp ?_)
    refine ⟨Kp ?_, trivial⟩
    have es := szW_eq tok (by omega)
    have hle : (t.refs.length : Int) ≤ 1000000000000 := by
      rw [es] at q2
      unfold Th.size at q2
      omega
    refine CallC_intro (refs14_spec (p.ts.length : Int) _ ((hrv.keep F7' (fun _ _ => id)).keep g11 (fun _ _ => id)) hle) (fun v w12 ⟨hv, f12⟩ => ?_)
    subst hv
    have g12 := g11.no f12
    refine Sd_intro ⟨b19.keep g12 id, b59.keep g12 id, b79.keep g12 id⟩ (Kp ?_)
    refine Br_intro (fun q6 => ?_) (fun q6 => ?_)
    · exact ⟨(no g12).1, (no g12).2⟩
    have q6 : (!inR14 p.ts.length t.refs) = false := q6
    have q3 : (decide (szW t > P p.c / 2) != decide (t.st = 4)) = false := q3
    refine ⟨(p.ts.length - (i + 1)).toNat, _, by omega, ?_, i + 1, rfl, f5.no (F7'.no g12), (show 0 ≤ i + 1 by omega), (show i + 1 ≤ (p.ts.length : Int) by omega), fun j u hj hu => ?_, rfl⟩
    · exact ⟨rfl, rfl, look_int rfl (wrap_i64 (by omega) (by omega)), trivial⟩
    by_cases e : (j : Int) < i
    · exact good j u e hu
    obtain rfl : j = i.toNat := by omega
    rw [hti] at hu
    injection hu with hu
    subst hu
    rw [es] at q1 q2 q3
    refine ⟨by omega, by omega, ?_, by omega, by omega, inR14_all (by simpa using q6)⟩
    by_cases c1 : t.size > P p.c / 2 <;> by_cases c2 : t.st = 4 <;> simp_all
  · have g : ¬ i < (p.ts.length : Int) := g
    have allT : ∀ t ∈ p.ts, ThGood p t := fun t ht => by
      obtain ⟨j, hj, e⟩ := List.getElem_of_mem ht
      exact good j t (by omega) (by rw [List.getElem?_eq_getElem hj, e])
    refine LoopC_intro (α := Int) (fun i => [(1, .pointer (some ⟨p1, 0, none⟩)), (8, .int .i64 i)])
      (fun m i w' => Fr No w5 w' ∧ 0 ≤ i ∧ i ≤ p.hs.length ∧ (∀ (j : Nat) (l : List Int), (j : Int) < i → p.hs[j]? = some l → (l.length : Int) ≤ p.c.c4 ∧ ∀ r ∈ l, 0 ≤ r ∧ r ≤ p.ts.length) ∧ m = (p.hs.length - i).toNat)
      (p.hs.length - 0 : Int).toNat 0 ⟨rfl, rfl, trivial⟩ ⟨Fr.refl _ _, Int.le_refl _, (show (0 : Int) ≤ p.hs.length by omega), fun j t h => absurd h (by omega), rfl⟩ (fun m k w6 hJ => Kp ?_)
    obtain ⟨f6, k0, k1, goodh, hm⟩ := hJ
    have k0 : 0 ≤ k := k0
    have k1 : k ≤ (p.hs.length : Int) := k1
    have hm : m = (p.hs.length - k).toNat := hm
    have b16 := b15.keep f6 id
    have F6 := F5.no f6
    refine LdC_blk (b16) rfl ?_
    refine Br_dec (fun g4 => ?_) (fun g4 => ?_)
    · have g4 : k < (p.hs.length : Int) := g4
      have hk : k.toNat < p.hs.length := by omega
      obtain ⟨l, hli⟩ : ∃ l, p.hs[k.toNat]? = some l := ⟨_, List.getElem?_eq_getElem hk⟩
      obtain ⟨a', c', e, _, hth⟩ := hH.keep F6
      obtain rfl : ha = a' := by injection e
      obtain ⟨_, lb, x, u, ea, hl', hcell⟩ := hth k.toNat l hli
      subst ea
      obtain ⟨la, lc, rfl, _⟩ := id hl'
      have D6 : Fr No w6 w6.drew := Fr.drew w6
      refine AnyC_plan T_ok mixed (planO [0,1,2,3,4,5,6,7,8,9,10,11,12,13,14,15,16,17,18,1019,20,21]) ((fun w' => Blk w' p1 t_gleanerref14_Plan (planL p (.slice ta p.ts.length tc) (.slice (some x) p.hs.length hc)) ∧ w'.cell? (x.add k.toNat) = some (.slice la l.length lc))) (by kernel_rfl) (by kernel_rfl) (⟨b16.keep (Fr.drew _) id, cell_keep hcell (Fr.drew _)⟩) (Kp ?_)
      refine LdS_of (fun w' hw => hw.1) rfl (Kp ?_)
      refine Sd_intro (show 0 ≤ k ∧ k < (p.hs.length : Int) from ⟨k0, g4⟩) (Kp ?_)
      refine LdS_intro (v := .slice la l.length lc) (fun w' hw => by rw [Nat.mul_one]; exact hw.2) (Kp ?_)
      refine LdS_of (fun w' hw => hw.1) rfl (Kp ?_)
      refine Br_dec (fun q1 => ?_) (fun q1 => ?_)
      · refine ⟨Kp ?_, trivial⟩
        exact ⟨RightV.no p, F6.no (Fr.drew _)⟩
      have q1 : ¬ (l.length : Int) > p.c.c4 := q1
      have c4 := (hV.ls 2 (p.c.c4, 1, 64) rfl).2
      have c4 : p.c.c4 ≤ 64 := c4
      refine LdS_of (fun w' hw => hw.1) rfl (Kp ?_)
      refine Sd_intro (show 0 ≤ k ∧ k < (p.hs.length : Int) from ⟨k0, g4⟩) (Kp ?_)
      refine LdS_intro (v := .slice la l.length lc) (fun w' hw => by rw [Nat.mul_one]; exact hw.2) (Kp ?_)
      refine LdS_of (fun w' hw => hw.1) rfl (Kp ?_)
      refine ⟨Kp ?_, trivial⟩
      refine CallC_intro (refs14_spec (p.ts.length : Int) _ (hl'.keep D6 (fun _ _ => id)) (by omega)) (fun v w7 ⟨hv, f7⟩ => ?_)
      subst hv
      have g7 := D6.no f7
      refine Sd_intro ⟨b16.keep g7 id, cell_keep hcell g7⟩ (Kp ?_)
      refine Br_intro (fun q2 => ?_) (fun q2 => ?_)
      · exact ⟨RightV.no p, F6.no g7⟩
      have q2 : (!inR14 p.ts.length l) = false := q2
      refine ⟨(p.hs.length - (k + 1)).toNat, _, by omega, ?_, k + 1, rfl, f6.no g7, (show 0 ≤ k + 1 by omega), (show k + 1 ≤ (p.hs.length : Int) by omega), fun j u hj hu => ?_, rfl⟩
      · exact ⟨rfl, look_int rfl (wrap_i64 (by omega) (by omega)), trivial⟩
      by_cases e : (j : Int) < k
      · exact goodh j u e hu
      obtain rfl : j = k.toNat := by omega
      rw [hli] at hu
      injection hu with hu
      subst hu
      exact ⟨by omega, inR14_all (by simpa using q2)⟩
    · have g4 : ¬ k < (p.hs.length : Int) := g4
      refine ⟨⟨true, rfl, fun _ => ⟨hV, by omega, by omega, by omega, allT, fun l hl => ?_⟩⟩, F6⟩
      obtain ⟨j, hj, e⟩ := List.getElem_of_mem hl
      exact goodh j l (by omega) (by rw [List.getElem?_eq_getElem hj, e])
end Go.Proofs.YtdhbpklmkibmbaaGreat
