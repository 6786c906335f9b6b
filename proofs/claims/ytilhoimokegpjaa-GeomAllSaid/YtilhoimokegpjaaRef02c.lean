/- The document's answer for layer 2: May. -/
import Derived.Test.YtilhoimokegpjaaRef02b
namespace Go.Proofs.Ytilhoimokegpjaa
open Go.Vc

theorem RMay_spec (c : Cfg) (w : World) : CallC Pr f_gleanerref02_May [cfgV c] w (fun v w' => ∃ ok : Bool, v = .bool ok ∧ (ok = true ↔ Valid c) ∧ Fr No w w') := by
  have no : ∀ w' : World, ¬ Valid c → Fr No w w' → ∃ ok : Bool, Value.bool false = .bool ok ∧ (ok = true ↔ Valid c) ∧ Fr No w w' := fun w' hn f => ⟨false, rfl, ⟨fun h => (by cases h), fun h => absurd h hn⟩, f⟩
  refine call_sound T_ok fun_gleanerref02_May rfl (by kernel_rfl) rfl ?_
  refine NewC_blk (fun b w1 hb h1 f1 _ => ?_)
  have h1 : Blk w1 b t_api_Config (cfgL c) := h1
  refine AnyC_ord [0, 1, 1002, 3, 4, 5, 1006, 7, 8, 9, 10, 11, 12, 13, 14, 1015, 16, 17, 18, 19, 20, 21, 22, 23, 1024, 25, 26, 27, 28, 1029, 30, 31, 32, 33, 1034, 35, 36, 37, 38, 1039, 40, 41, 42, 43, 1044, 45, 46, 47, 48, 49, 50, 1051, 52, 53, 54, 55, 1056, 57, 58, 59, 60, 1061, 62, 63, 64, 65, 1066, 67, 68, 69, 70, 1071, 72, 73, 74, 75, 1076, 77, 78, 79, 80, 1081, 82, 83] T_ok mixed (by kernel_rfl) (by kernel_rfl) ?_
  refine LdS_blk h1 rfl ?_
  refine ⟨?_, trivial⟩
  refine CallC_intro (in_spec _ _ _ _) (fun v w2 ⟨hv, g0⟩ => ?_)
  subst hv
  have q0 := g0.drewL
  refine Sd_intro q0.old ?_
  refine Br_dec (fun e0 => ?_) (fun e0 => ?_)
  rotate_left
  · repeat refine ⟨?_, trivial⟩
    exact no _ (fun h => e0 ⟨h.s0, h.s1⟩) (f1.no q0)
  have e0 : 6 ≤ c.c0 ∧ c.c0 ≤ 20 := e0
  refine LdS_blk h1 rfl ?_
  refine ⟨?_, trivial⟩
  refine CallC_intro (in_spec _ _ _ _) (fun v w3 ⟨hv, g1⟩ => ?_)
  subst hv
  have q1 := q0.no g1
  refine Sd_intro q1.old ?_
  refine Br_dec (fun e1 => ?_) (fun e1 => ?_)
  rotate_left
  · repeat refine ⟨?_, trivial⟩
    exact no _ (fun h => e1 ⟨h.r0, h.r1⟩) (f1.no q1)
  refine LdS_blk h1 rfl ?_
  refine LdS_blk h1 rfl ?_
  refine ⟨?_, trivial⟩
  have em : imin (imax c.c0 6) 20 = c.c0 := by rw [imax_eq, imin_eq]; omega
  have hpw : ∀ j w, j = c.c0 → CallC Pr f_gleanerref02_power [.int .i64 j] w (fun v w' => v = .int .i64 (2 ^ c.c0.toNat) ∧ Fr No w w') := fun j w e => by subst e; exact power_spec c.c0 (by omega) (by omega) w
  refine CallC_intro (hpw _ _ em) (fun v w4 ⟨hv, g2⟩ => ?_)
  subst hv
  have q2 := q1.no g2
  refine Sd_intro q2.old ?_
  have pp := pow_pos2 c.c0.toNat
  have pd : IntKind.i64.wrap (Int.tdiv 4194304 (2 ^ c.c0.toNat)) = 4194304 / 2 ^ c.c0.toNat := by
    have a1 : 0 ≤ 4194304 / (2 : Int) ^ c.c0.toNat := Int.ediv_nonneg (by omega) (by omega)
    have a2 := Int.ediv_le_self (a := 4194304) ((2 : Int) ^ c.c0.toNat) (by omega)
    rw [tdiv_eq (by omega), wrap_i64 (by omega) (by omega)]
  refine Sd_intro (by omega) ?_
  refine Br_dec (fun e2 => ?_) (fun e2 => ?_)
  rotate_left
  · repeat refine ⟨?_, trivial⟩
    exact no _ (fun h => e2 (show c.c1 ≤ IntKind.i64.wrap (Int.tdiv 4194304 (2 ^ c.c0.toNat)) by rw [pd]; exact h.r2)) (f1.no q2)
  have e2 : c.c1 ≤ IntKind.i64.wrap (Int.tdiv 4194304 (2 ^ c.c0.toNat)) := e2
  rw [pd] at e2
  refine LdS_blk h1 rfl ?_
  refine LdS_blk h1 rfl ?_
  refine ⟨?_, trivial⟩
  refine CallC_intro (in_spec _ _ _ _) (fun v w5 ⟨hv, g3⟩ => ?_)
  subst hv
  have q3 := q2.no g3
  refine Sd_intro q3.old ?_
  refine Br_dec (fun e3 => ?_) (fun e3 => ?_)
  rotate_left
  · repeat refine ⟨?_, trivial⟩
    exact no _ (fun h => e3 (h.ls 0 _ rfl)) (f1.no q3)
  refine LdS_blk h1 rfl ?_
  refine ⟨?_, trivial⟩
  refine CallC_intro (in_spec _ _ _ _) (fun v w6 ⟨hv, g4⟩ => ?_)
  subst hv
  have q4 := q3.no g4
  refine Sd_intro q4.old ?_
  refine Br_dec (fun e4 => ?_) (fun e4 => ?_)
  rotate_left
  · repeat refine ⟨?_, trivial⟩
    exact no _ (fun h => e4 (h.ls 1 _ rfl)) (f1.no q4)
  refine LdS_blk h1 rfl ?_
  refine ⟨?_, trivial⟩
  refine CallC_intro (in_spec _ _ _ _) (fun v w7 ⟨hv, g5⟩ => ?_)
  subst hv
  have q5 := q4.no g5
  refine Sd_intro q5.old ?_
  refine Br_dec (fun e5 => ?_) (fun e5 => ?_)
  rotate_left
  · repeat refine ⟨?_, trivial⟩
    exact no _ (fun h => e5 (h.ls 2 _ rfl)) (f1.no q5)
  refine LdS_blk h1 rfl ?_
  refine ⟨?_, trivial⟩
  refine CallC_intro (in_spec _ _ _ _) (fun v w8 ⟨hv, g6⟩ => ?_)
  subst hv
  have q6 := q5.no g6
  refine Sd_intro q6.old ?_
  refine Br_dec (fun e6 => ?_) (fun e6 => ?_)
  rotate_left
  · repeat refine ⟨?_, trivial⟩
    exact no _ (fun h => e6 (h.ls 3 _ rfl)) (f1.no q6)
  refine LdS_blk h1 rfl ?_
  refine ⟨?_, trivial⟩
  refine CallC_intro (in_spec _ _ _ _) (fun v w9 ⟨hv, g7⟩ => ?_)
  subst hv
  have q7 := q6.no g7
  refine Sd_intro q7.old ?_
  refine Br_dec (fun e7 => ?_) (fun e7 => ?_)
  rotate_left
  · repeat refine ⟨?_, trivial⟩
    exact no _ (fun h => e7 (h.ls 4 _ rfl)) (f1.no q7)
  refine LdS_blk h1 rfl ?_
  refine LdS_blk h1 rfl ?_
  refine ⟨?_, trivial⟩
  refine CallC_intro (in_spec _ _ _ _) (fun v w10 ⟨hv, g8⟩ => ?_)
  subst hv
  have q8 := q7.no g8
  refine Sd_intro q8.old ?_
  refine Br_dec (fun e8 => ?_) (fun e8 => ?_)
  rotate_left
  · repeat refine ⟨?_, trivial⟩
    exact no _ (fun h => e8 (h.ls 5 _ rfl)) (f1.no q8)
  refine LdS_blk h1 rfl ?_
  refine ⟨?_, trivial⟩
  refine CallC_intro (in_spec _ _ _ _) (fun v w11 ⟨hv, g9⟩ => ?_)
  subst hv
  have q9 := q8.no g9
  refine Sd_intro q9.old ?_
  refine Br_dec (fun e9 => ?_) (fun e9 => ?_)
  rotate_left
  · repeat refine ⟨?_, trivial⟩
    exact no _ (fun h => e9 (h.ls 6 _ rfl)) (f1.no q9)
  refine LdS_blk h1 rfl ?_
  refine ⟨?_, trivial⟩
  refine CallC_intro (in_spec _ _ _ _) (fun v w12 ⟨hv, g10⟩ => ?_)
  subst hv
  have q10 := q9.no g10
  refine Sd_intro q10.old ?_
  refine Br_dec (fun e10 => ?_) (fun e10 => ?_)
  rotate_left
  · repeat refine ⟨?_, trivial⟩
    exact no _ (fun h => e10 (h.ls 7 _ rfl)) (f1.no q10)
  refine LdS_blk h1 rfl ?_
  refine ⟨?_, trivial⟩
  refine CallC_intro (in_spec _ _ _ _) (fun v w13 ⟨hv, g11⟩ => ?_)
  subst hv
  have q11 := q10.no g11
  refine Sd_intro q11.old ?_
  refine Br_dec (fun e11 => ?_) (fun e11 => ?_)
  rotate_left
  · repeat refine ⟨?_, trivial⟩
    exact no _ (fun h => e11 (h.ls 8 _ rfl)) (f1.no q11)
  refine LdS_blk h1 rfl ?_
  refine ⟨?_, trivial⟩
  refine CallC_intro (in_spec _ _ _ _) (fun v w14 ⟨hv, g12⟩ => ?_)
  subst hv
  have q12 := q11.no g12
  refine Sd_intro q12.old ?_
  refine Br_dec (fun e12 => ?_) (fun e12 => ?_)
  rotate_left
  · repeat refine ⟨?_, trivial⟩
    exact no _ (fun h => e12 (h.ls 9 _ rfl)) (f1.no q12)
  refine LdS_blk h1 rfl ?_
  refine ⟨?_, trivial⟩
  refine CallC_intro (in_spec _ _ _ _) (fun v w15 ⟨hv, g13⟩ => ?_)
  subst hv
  have q13 := q12.no g13
  refine Sd_intro q13.old ?_
  refine Br_dec (fun e13 => ?_) (fun e13 => ?_)
  rotate_left
  · repeat refine ⟨?_, trivial⟩
    exact no _ (fun h => e13 (h.ls 10 _ rfl)) (f1.no q13)
  refine LdS_blk h1 rfl ?_
  refine ⟨?_, trivial⟩
  refine CallC_intro (in_spec _ _ _ _) (fun v w16 ⟨hv, g14⟩ => ?_)
  subst hv
  have q14 := q13.no g14
  refine Sd_intro q14.old ?_
  refine ⟨_, rfl, ⟨fun hd => ⟨e0.1, e0.2, e1.1, e1.2, e2, fun k x hx => ?_⟩, fun h => decide_eq_true (h.ls 11 _ rfl)⟩, f1.no q14⟩
  have e14 := of_decide_eq_true hd
  have hk := (List.getElem?_eq_some_iff.1 hx).1
  have hk : k < 12 := hk
  by_cases k0 : k = 0
  · subst k0; injection hx with hx; subst hx; exact e3
  by_cases k1 : k = 1
  · subst k1; injection hx with hx; subst hx; exact e4
  by_cases k2 : k = 2
  · subst k2; injection hx with hx; subst hx; exact e5
  by_cases k3 : k = 3
  · subst k3; injection hx with hx; subst hx; exact e6
  by_cases k4 : k = 4
  · subst k4; injection hx with hx; subst hx; exact e7
  by_cases k5 : k = 5
  · subst k5; injection hx with hx; subst hx; exact e8
  by_cases k6 : k = 6
  · subst k6; injection hx with hx; subst hx; exact e9
  by_cases k7 : k = 7
  · subst k7; injection hx with hx; subst hx; exact e10
  by_cases k8 : k = 8
  · subst k8; injection hx with hx; subst hx; exact e11
  by_cases k9 : k = 9
  · subst k9; injection hx with hx; subst hx; exact e12
  by_cases k10 : k = 10
  · subst k10; injection hx with hx; subst hx; exact e13
  by_cases k11 : k = 11
  · subst k11; injection hx with hx; subst hx; exact e14
  omega
end Go.Proofs.Ytilhoimokegpjaa
