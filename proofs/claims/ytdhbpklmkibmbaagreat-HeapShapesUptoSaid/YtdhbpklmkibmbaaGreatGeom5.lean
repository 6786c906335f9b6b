/- Layer 2 (geom): log, may, New. -/
import Derived.Test.YtdhbpklmkibmbaaGreatVcT
import Derived.Test.YtdhbpklmkibmbaaGreatVcI
namespace Go.Proofs.YtdhbpklmkibmbaaGreat
open Go.Vc

theorem pow_pos2 (k : Nat) : (1 : Int) ≤ 2 ^ k := by
  have : (0 : Int) < 2 ^ k := Int.pow_pos (by omega)
  omega
theorem pow_split {j k : Nat} (h : j ≤ k) : (2 : Int) ^ k = 2 ^ j * 2 ^ (k - j) := by rw [← Int.pow_add, Nat.add_sub_cancel' h]
theorem pow_div {j k : Nat} (h : j ≤ k) : (2 : Int) ^ k / 2 ^ j = 2 ^ (k - j) := by
  rw [pow_split h, Int.mul_ediv_cancel_left _ (by have := pow_pos2 j; omega)]
theorem pow_big {k : Nat} (h : 0 < k) : (2 : Int) ≤ 2 ^ k := by
  rw [pow_split (show 1 ≤ k by omega)]
  have := pow_pos2 (k - 1)
  show (2 : Int) ≤ 2 ^ 1 * 2 ^ (k - 1)
  rw [Int.pow_one]; omega
theorem pow_le {j k : Nat} (h : j ≤ k) : (2 : Int) ^ j ≤ 2 ^ k := by
  rw [pow_split h]
  have h1 := pow_pos2 j
  have h2 := pow_pos2 (k - j)
  have := Int.mul_le_mul_of_nonneg_left h2 (show (0 : Int) ≤ 2 ^ j by omega)
  omega
theorem log_spec (k : Nat) (hk : k ≤ 40) (w : World) : CallC Pr f_geom_log [.int .i64 (2 ^ k)] w (fun v w' => v = .int .u64 k ∧ Fr No w w') := by
  generalize hn : (2 : Int) ^ k = n
  refine call_sound T_ok fun_geom_log rfl (by kernel_rfl) rfl (Kp ?_)
  refine LoopC_intro (α := Int) (fun j => [(0, .int .i64 n), (3, .int .u64 j)]) (fun m j w1 => Fr No w w1 ∧ 0 ≤ j ∧ j ≤ k ∧ m = (k - j).toNat)
    (k - 0 : Int).toNat 0 ⟨rfl, rfl, trivial⟩ ⟨Fr.refl _ _, (show (0 : Int) ≤ 0 by omega), (show (0 : Int) ≤ k by omega), rfl⟩ ?_
  rintro m j w1 ⟨hF, j0, j1, hm⟩
  refine Sd_intro j0 ?_
  have e : shiftV .shr .i64 n j.toNat = 2 ^ (k - j.toNat) := by rw [shr_i64 n (by omega), ← hn, pow_div (by omega)]
  refine Br_dec (fun g => ?_) (fun g => ?_)
  · have g : shiftV .shr .i64 n j.toNat > 1 := g
    rw [e] at g
    have hlt : j < k := by
      by_cases h : j < k
      · exact h
      · rw [show k - j.toNat = 0 by omega, Int.pow_zero] at g; omega
    have e1 : IntKind.u64.wrap (j + 1) = j + 1 := wrap_u64 (by omega) (by omega)
    refine ⟨(k - (j + 1)).toNat, _, by omega, ?_, j + 1, rfl, hF, by omega, by omega, rfl⟩
    exact ⟨rfl, look_int rfl e1, trivial⟩
  · have g : ¬ shiftV .shr .i64 n j.toNat > 1 := g
    rw [e] at g
    have : j = k := by
      by_cases h : j < k
      · have := pow_big (k := k - j.toNat) (by omega)
        omega
      · omega
    subst this
    exact ⟨rfl, hF⟩
end Go.Proofs.YtdhbpklmkibmbaaGreat
/- Layer 2 (geom): may, New. -/
namespace Go.Proofs.YtdhbpklmkibmbaaGreat
open Go.Vc

structure Cfg where
  c0 : Int
  c1 : Int
  c2 : Int
  c3 : Int
  c4 : Int
  c5 : Int
  c6 : Int
  c7 : Int
  c8 : Int
  c9 : Int
  c10 : Int
  c11 : Int
  c12 : Int
  c13 : Int
def cfgL (c : Cfg) : List Value := [.int .i64 c.c0, .int .i64 c.c1, .int .i64 c.c2, .int .i64 c.c3, .int .i64 c.c4, .int .i64 c.c5, .int .i64 c.c6, .int .i64 c.c7, .int .i64 c.c8, .int .i64 c.c9, .int .i64 c.c10, .int .i64 c.c11, .int .i64 c.c12, .int .i64 c.c13]
def cfgV (c : Cfg) : Value := .agg (cfgL c).toArray
def flat3 (rs : List (Int × Int × Int)) : List Value := rs.flatMap fun x => [.int .i64 x.1, .int .i64 x.2.1, .int .i64 x.2.2]
theorem flat3_take : ∀ {rs : List (Int × Int × Int)} {k : Nat} {x : Int × Int × Int}, rs[k]? = some x → ((flat3 rs).drop (3 * k)).take 3 = [.int .i64 x.1, .int .i64 x.2.1, .int .i64 x.2.2] := by
  intro rs
  induction rs with
  | nil => intro k x h; cases h
  | cons y rs ih =>
    intro k x h
    cases k with
    | zero => simp only [List.getElem?_cons_zero, Option.some.injEq] at h; subst h; rfl
    | succ k =>
      have := ih (k := k) (x := x) (by simpa using h)
      simpa [flat3, show 3 * (k + 1) = 3 * k + 3 by omega] using this
def lims (c : Cfg) : List (Int × Int × Int) := [(c.c2, 3, c.c0), (c.c3, 1, 64), (c.c4, 1, 64), (c.c5, 0, 8), (c.c6, 0, 8), (c.c7, 1, c.c1), (c.c8, 0, 7), (c.c9, 0, 65536), (c.c10, 0, 65536), (c.c11, 0, 4194304), (c.c12, 0, 100), (c.c13, 0, 65536)]
structure Valid (c : Cfg) : Prop where
  s0 : 6 ≤ c.c0
  s1 : c.c0 ≤ 20
  r0 : 2 ≤ c.c1
  r1 : c.c1 ≤ 65536
  r2 : c.c1 ≤ 4194304 / 2 ^ c.c0.toNat
  ls : ∀ (k : Nat) (x : Int × Int × Int), (lims c)[k]? = some x → x.2.1 ≤ x.1 ∧ x.1 ≤ x.2.2
theorem may_spec (c : Cfg) (w : World) : CallC Pr f_geom_may [cfgV c] w (fun v w' => ∃ ok : Bool, v = .bool ok ∧ (ok = true ↔ Valid c) ∧ Fr No w w') := by
  refine call_sound T_ok fun_geom_may rfl (by kernel_rfl) rfl (Kp ?_)
  refine NewC_blk (fun b w1 hb h1 f1 _ => ?_)
  have h1 : Blk w1 b t_api_Config (cfgL c) := h1
  have no : ∀ w' : World, ¬ Valid c → Fr No w w' → ∃ ok : Bool, Value.bool false = .bool ok ∧ (ok = true ↔ Valid c) ∧ Fr No w w' := fun w' hn f => ⟨false, rfl, ⟨fun h => (by cases h), fun h => absurd h hn⟩, f⟩
  refine LdC_blk h1 rfl ?_
  refine Br_dec (fun g0 => no _ (fun h => by have := h.s0; have g0 : c.c0 < 6 := g0; omega) f1) (fun g0 => ?_)
  refine LdC_blk h1 rfl ?_
  refine Br_dec (fun g1 => no _ (fun h => by have := h.s1; have g1 : c.c0 > 20 := g1; omega) f1) (fun g1 => ?_)
  refine LdC_blk h1 rfl ?_
  refine Br_dec (fun g2 => no _ (fun h => by have := h.r0; have g2 : c.c1 < 2 := g2; omega) f1) (fun g2 => ?_)
  refine LdC_blk h1 rfl ?_
  refine Br_dec (fun g3 => no _ (fun h => by have := h.r1; have g3 : c.c1 > 65536 := g3; omega) f1) (fun g3 => ?_)
  have g0 : ¬ c.c0 < 6 := g0
  have g1 : ¬ c.c0 > 20 := g1
  have g2 : ¬ c.c1 < 2 := g2
  have g3 : ¬ c.c1 > 65536 := g3
  refine LdC_blk h1 rfl ?_
  refine LdC_blk h1 rfl ?_
  have ew : IntKind.u64.wrap c.c0 = c.c0 := wrap_u64 (by omega) (by omega)
  refine Sd_intro (show 0 ≤ IntKind.u64.wrap c.c0 by rw [ew]; omega) ?_
  have es : shiftV .shr .i64 4194304 (IntKind.u64.wrap c.c0).toNat = 4194304 / 2 ^ c.c0.toNat := by rw [ew, shr_i64 _ (by omega)]
  refine Br_dec (fun g4 => no _ (fun h => by
    have := h.r2
    have g4 : c.c1 > shiftV .shr .i64 4194304 (IntKind.u64.wrap c.c0).toNat := g4
    rw [es] at g4; omega) f1) (fun g4 => ?_)
  have g4 : ¬ c.c1 > shiftV .shr .i64 4194304 (IntKind.u64.wrap c.c0).toNat := g4
  rw [es] at g4
  refine LdC_blk h1 rfl ?_
  refine LdC_blk h1 rfl ?_
  refine LdC_blk h1 rfl ?_
  refine LdC_blk h1 rfl ?_
  refine LdC_blk h1 rfl ?_
  refine LdC_blk h1 rfl ?_
  refine LdC_blk h1 rfl ?_
  refine LdC_blk h1 rfl ?_
  refine LdC_blk h1 rfl ?_
  refine LdC_blk h1 rfl ?_
  refine LdC_blk h1 rfl ?_
  refine LdC_blk h1 rfl ?_
  refine LdC_blk h1 rfl ?_
  refine LdC_blk h1 rfl ?_
  refine NewC_blk (fun b2 w2 hb2 h2 f2 _ => ?_)
  have h2 := h2.of_eq (cs' := flat3 (lims c)) (by kernel_rfl)
  have f2 := f1.no f2
  refine LoopC_intro (α := Int) (fun i => [(72, .slice (some ⟨b2, 0, none⟩) 12 12), (73, .int .i64 12), (74, .int .i64 i)])
    (fun m i w3 => Blk w3 b2 t_geom_bound (flat3 (lims c)) ∧ Fr No w w3 ∧ 0 ≤ i ∧ i ≤ 12 ∧ m = (12 - i).toNat ∧ ∀ (k : Nat) (x : Int × Int × Int), (k : Int) < i → (lims c)[k]? = some x → x.2.1 ≤ x.1 ∧ x.1 ≤ x.2.2)
    (12 - 0 : Int).toNat 0 ⟨rfl, rfl, rfl, trivial⟩ ⟨h2, f2, (show (0 : Int) ≤ 0 by omega), (show (0 : Int) ≤ 12 by omega), rfl, fun k x hk => (by have : (k : Int) < 0 := hk; omega)⟩ ?_
  rintro m i w3 ⟨h3, f3, i0, i1, hm, hall⟩
  refine Br_dec (fun e0 => ?_) (fun e0 => ?_)
  · have e0 : i < 12 := e0
    refine Sd_intro ⟨i0, e0⟩ ?_
    have hi : i.toNat < (lims c).length := by show i.toNat < 12; omega
    have hx := List.getElem?_eq_getElem hi
    generalize (lims c)[i.toNat] = x at hx
    refine LdN_idx (vs := [.int .i64 x.1, .int .i64 x.2.1, .int .i64 x.2.2]) h3 (by rw [Nat.zero_add, Nat.mul_comm]; exact flat3_take hx) rfl ?_
    refine NewC_blk (fun p w4 hp h4 f4 _ => ?_)
    refine StN_blk h4 rfl (Nat.le_refl 3) (fun w5 h5 f5 _ => ?_)
    have f35 : Fr No w3 w5 := f4.new f5 (fun _ _ e => e) (fun k e => by omega)
    have f5 := f3.no f35
    refine LdC_blk h5 (v := .int .i64 x.1) rfl ?_
    refine LdC_blk h5 (v := .int .i64 x.2.1) rfl ?_
    refine Br_dec (fun q0 => no _ (fun h => by have := h.ls _ x hx; have q0 : x.1 < x.2.1 := q0; omega) f5) (fun q0 => ?_)
    refine LdC_blk h5 (v := .int .i64 x.1) rfl ?_
    refine LdC_blk h5 (v := .int .i64 x.2.2) rfl ?_
    refine Br_dec (fun q1 => no _ (fun h => by have := h.ls _ x hx; have q1 : x.1 > x.2.2 := q1; omega) f5) (fun q1 => ?_)
    have ei : IntKind.i64.wrap (i + 1) = i + 1 := wrap_i64 (by omega) (by omega)
    refine ⟨(12 - (i + 1)).toNat, _, by omega, ?_, i + 1, rfl, h3.keep f35 id, f5, by omega, by omega, rfl, fun k y hk hy => ?_⟩
    · exact ⟨rfl, rfl, look_int rfl ei, trivial⟩
    · by_cases e : (k : Int) < i
      · exact hall k y e hy
      · have : k = i.toNat := by omega
        subst this
        rw [hx] at hy
        injection hy with hy
        subst hy
        have q0 : ¬ x.1 < x.2.1 := q0
        have q1 : ¬ x.1 > x.2.2 := q1
        omega
  · have e0 : ¬ i < 12 := e0
    refine ⟨true, rfl, ⟨fun _ => ⟨by omega, by omega, by omega, by omega, by omega, fun k x hx => hall k x ?_ hx⟩, fun _ => rfl⟩, f3⟩
    have := (List.getElem?_eq_some_iff.1 hx).1
    have : k < 12 := this
    omega
end Go.Proofs.YtdhbpklmkibmbaaGreat
/- Layer 2 (geom): New and what a geometry tells. -/
namespace Go.Proofs.YtdhbpklmkibmbaaGreat
open Go.Vc

def P (c : Cfg) : Int := 2 ^ c.c0.toNat
def Q (c : Cfg) : Int := 2 ^ c.c2.toNat
def geoL (a0 a1 a2 a3 a4 a5 : Int) : List Value := [.int .i64 a0, .int .i64 a1, .int .i64 a2, .int .i64 a3, .int .i64 a4, .int .i64 a5]
def geoV (a0 a1 a2 a3 a4 a5 : Int) : Value := .agg (geoL a0 a1 a2 a3 a4 a5).toArray
def geoOf (c : Cfg) : Value := geoV (c.c1 * P c) (P c) (Q c) c.c1 (c.c1 * P c / Q c) (min 1048576 (c.c1 * P c - P c))
theorem Valid.cs {c : Cfg} (h : Valid c) : 3 ≤ c.c2 ∧ c.c2 ≤ c.c0 := h.ls 0 (c.c2, 3, c.c0) rfl
theorem P_le {c : Cfg} (h : Valid c) : 64 ≤ P c ∧ P c ≤ 1048576 ∧ 8 ≤ Q c ∧ Q c ≤ P c ∧ 2 * P c ≤ c.c1 * P c ∧ c.c1 * P c ≤ 4194304 := by
  have hs := h.s0
  have hs1 := h.s1
  have hc := h.cs
  have h1 : (2 : Int) ^ 6 ≤ 2 ^ c.c0.toNat := pow_le (by omega)
  have h2 : (2 : Int) ^ c.c0.toNat ≤ 2 ^ 20 := pow_le (by omega)
  have h3 : (2 : Int) ^ 3 ≤ 2 ^ c.c2.toNat := pow_le (by omega)
  have h4 : (2 : Int) ^ c.c2.toNat ≤ 2 ^ c.c0.toNat := pow_le (by omega)
  have h5 := h.r2
  have e6 : (2 : Int) ^ 6 = 64 := by decide
  have e20 : (2 : Int) ^ 20 = 1048576 := by decide
  have e3 : (2 : Int) ^ 3 = 8 := by decide
  unfold P Q
  generalize (2 : Int) ^ c.c0.toNat = p at *
  have h6 := Int.mul_le_mul_of_nonneg_right h5 (show 0 ≤ p by omega)
  have h7 := Int.ediv_mul_le 4194304 (show p ≠ 0 by omega)
  have h8 := Int.mul_le_mul_of_nonneg_right h.r0 (show 0 ≤ p by omega)
  omega
theorem geom_New_spec (c : Cfg) (w : World) : CallC Pr f_geom_New [cfgV c] w (fun v w' =>
    ((Valid c ∧ v = .tuple #[geoOf c, .int .i64 0]) ∨ (¬ Valid c ∧ v = .tuple #[geoV 0 0 0 0 0 0, .int .i64 20])) ∧ Fr No w w') := by
  refine call_sound T_ok fun_geom_New rfl (by kernel_rfl) rfl (Kp ?_)
  refine NewC_blk (fun b w1 hb h1 f1 _ => ?_)
  have h1 : Blk w1 b t_api_Config (cfgL c) := h1
  refine NewC_blk (fun b2 w2 hb2 h2 f2 _ => ?_)
  have h1 := h1.keep f2 id
  refine LdN_blk (vs := cfgL c) h1 rfl rfl ?_
  refine CallC_intro (may_spec c w2) (fun v w3 ⟨ok, hv, hok, f3⟩ => ?_)
  subst hv
  have h1 := h1.keep f3 id
  have h2 := h2.keep f3 id
  have f13 := (f1.no f2).no f3
  have s1 := f1.size
  cases ok with
  | false =>
    refine StN_blk h2 rfl (Nat.le_refl 6) (fun w4 h4 f4 _ => ?_)
    refine LdN_blk (vs := geoL 0 0 0 0 0 0) h4 rfl rfl ?_
    exact ⟨.inr ⟨fun h => (by have := hok.2 h; cases this), rfl⟩, f13.new f4 (fun _ _ e => e) (fun k e => by omega)⟩
  | true =>
    have hV := hok.1 rfl
    have hs := hV.s0
    have hs1 := hV.s1
    have hc := hV.cs
    have hp := P_le hV
    have e0 : IntKind.u64.wrap c.c0 = c.c0 := wrap_u64 (by omega) (by omega)
    have e2 : IntKind.u64.wrap c.c2 = c.c2 := wrap_u64 (by omega) (by omega)
    have p0 : 0 ≤ IntKind.u64.wrap c.c0 := by rw [e0]; omega
    have p2 : 0 ≤ IntKind.u64.wrap c.c2 := by rw [e2]; omega
    refine LdC_blk h1 rfl ?_
    refine LdC_blk h1 rfl ?_
    refine Sd_intro p0 ?_
    refine LdC_blk h1 rfl ?_
    refine Sd_intro p0 ?_
    refine LdC_blk h1 rfl ?_
    refine Sd_intro p2 ?_
    refine LdC_blk h1 rfl ?_
    refine LdC_blk h1 rfl ?_
    refine Sd_intro p2 ?_
    refine LdC_blk h1 rfl ?_
    refine Sd_intro p0 ?_
    have u1 : shiftV .shl .i64 c.c1 (IntKind.u64.wrap c.c0).toNat = c.c1 * P c := by
      rw [e0, shl_i64 _ (by omega), wrap_i64]
      · rfl
      · show _ ≤ c.c1 * P c; omega
      · show c.c1 * P c ≤ _; omega
    have u2 : shiftV .shl .i64 1 (IntKind.u64.wrap c.c0).toNat = P c := by
      rw [e0, shl_i64 _ (by omega), Int.one_mul, wrap_i64]
      · rfl
      · show _ ≤ P c; omega
      · show P c ≤ _; omega
    have u3 : shiftV .shl .i64 1 (IntKind.u64.wrap c.c2).toNat = Q c := by
      rw [e2, shl_i64 _ (by omega), Int.one_mul, wrap_i64]
      · rfl
      · show _ ≤ Q c; omega
      · show Q c ≤ _; omega
    have u4 : shiftV .shr .i64 (c.c1 * P c) (IntKind.u64.wrap c.c2).toNat = c.c1 * P c / Q c := by
      rw [e2, shr_i64 _ (by omega)]; rfl
    have u5 : imin 1048576 (IntKind.i64.wrap (c.c1 * P c - P c)) = min 1048576 (c.c1 * P c - P c) := by
      rw [imin_eq, wrap_i64 (by omega) (by omega)]
    refine StN_blk h2 rfl (Nat.le_refl 6) (fun w4 h4 f4 _ => ?_)
    have h4 : Blk w4 b2 t_geom_Geom (geoL (shiftV .shl .i64 c.c1 (IntKind.u64.wrap c.c0).toNat) (shiftV .shl .i64 1 (IntKind.u64.wrap c.c0).toNat) (shiftV .shl .i64 1 (IntKind.u64.wrap c.c2).toNat) c.c1 (shiftV .shr .i64 (shiftV .shl .i64 c.c1 (IntKind.u64.wrap c.c0).toNat) (IntKind.u64.wrap c.c2).toNat) (imin 1048576 (IntKind.i64.wrap (shiftV .shl .i64 c.c1 (IntKind.u64.wrap c.c0).toNat - shiftV .shl .i64 1 (IntKind.u64.wrap c.c0).toNat)))) := h4
    rw [u1, u2, u3, u4, u5] at h4
    refine LdN_blk (vs := geoL (c.c1 * P c) (P c) (Q c) c.c1 (c.c1 * P c / Q c) (min 1048576 (c.c1 * P c - P c))) h4 rfl rfl ?_
    exact ⟨.inl ⟨hV, rfl⟩, f13.new f4 (fun _ _ e => e) (fun k e => by omega)⟩
theorem Big_spec (a0 a1 a2 a3 a4 a5 n : Int) (w : World) : CallC Pr f_geom_Geom_Big [geoV a0 a1 a2 a3 a4 a5, .int .i64 n] w (fun v w' => v = .bool (decide (n > a1 / 2)) ∧ Fr No w w') := by
  refine call_sound T_ok fun_geom_Geom_Big rfl (by kernel_rfl) rfl (Kp ?_)
  refine NewC_blk (fun b w1 hb h1 f1 _ => ?_)
  refine LdC_blk h1 rfl ?_
  refine Sd_intro (by omega) ?_
  refine ⟨?_, f1⟩
  show Value.bool (decide (n > shiftV .shr .i64 a1 (1 : Int).toNat)) = _
  rw [shr_i64 _ (by decide)]
  rfl
theorem Span_spec (a0 a2 a3 a4 a5 n : Int) (k : Nat) (hk : k ≤ 20) (h0 : 0 ≤ n) (h1 : n ≤ 4194304) (w : World) :
    CallC Pr f_geom_Geom_Span [geoV a0 (2 ^ k) a2 a3 a4 a5, .int .i64 n] w (fun v w' => v = .int .i64 (if n < 1 then 0 else (n - 1) / 2 ^ k + 1) ∧ Fr No w w') := by
  refine call_sound T_ok fun_geom_Geom_Span rfl (by kernel_rfl) rfl (Kp ?_)
  refine NewC_blk (fun b w1 hb h2 f1 _ => ?_)
  refine Br_dec (fun g => ?_) (fun g => ?_)
  · exact ⟨by rw [if_pos g]; rfl, f1⟩
  · refine LdC_blk h2 rfl ?_
    refine CallC_intro (log_spec k (by omega) w1) (fun v w2 ⟨hv, f2⟩ => ?_)
    subst hv
    refine Sd_intro (by omega) ?_
    refine ⟨?_, f1.no f2⟩
    rw [if_neg g]
    have g : ¬ n < 1 := g
    have hq : 0 ≤ (n - 1) / 2 ^ k := Int.ediv_nonneg (by omega) (Int.pow_nonneg (by omega))
    have hq2 := Int.ediv_le_self (a := n - 1) (2 ^ k) (by omega)
    show Value.int .i64 (IntKind.i64.wrap (shiftV .shr .i64 (IntKind.i64.wrap (n - 1)) ((k : Int)).toNat + 1)) = _
    rw [wrap_i64 (n := n - 1) (by omega) (by omega), Int.toNat_natCast, shr_i64 _ (by omega), wrap_i64 (by omega) (by omega)]
end Go.Proofs.YtdhbpklmkibmbaaGreat
/- Layer 2 (geom): places. -/
namespace Go.Proofs.YtdhbpklmkibmbaaGreat
open Go.Vc

theorem shl_small {x : Int} {k : Nat} (hk : k ≤ 40) (h0 : 0 ≤ x * 2 ^ k) (h1 : x * 2 ^ k ≤ 4194304) : shiftV .shl .i64 x ((k : Int)).toNat = x * 2 ^ k := by
  rw [Int.toNat_natCast, shl_i64 _ (by omega), wrap_i64 (by omega) (by omega)]
theorem shr_small {x : Int} {k : Nat} (hk : k ≤ 40) : shiftV .shr .i64 x ((k : Int)).toNat = x / 2 ^ k := by
  rw [Int.toNat_natCast, shr_i64 _ (by omega)]
theorem Region_spec (a0 a2 a3 a4 a5 n : Int) (k : Nat) (hk : k ≤ 20) (w : World) :
    CallC Pr f_geom_Geom_Region [geoV a0 (2 ^ k) a2 a3 a4 a5, .int .i64 n] w (fun v w' => v = .int .i64 (if n < 0 ∨ a0 ≤ n then -1 else n / 2 ^ k) ∧ Fr No w w') := by
  refine call_sound T_ok fun_geom_Geom_Region rfl (by kernel_rfl) rfl (Kp ?_)
  refine NewC_blk (fun b w1 hb h2 f1 _ => ?_)
  refine Br_dec (fun g => ?_) (fun g => ?_)
  · exact ⟨by rw [if_pos (.inl g)]; rfl, f1⟩
  · have g : ¬ n < 0 := g
    refine LdC_blk h2 rfl ?_
    refine Br_dec (fun g2 => ?_) (fun g2 => ?_)
    · have g2 : n ≥ a0 := g2
      exact ⟨by rw [if_pos (.inr (by omega))]; rfl, f1⟩
    · have g2 : ¬ n ≥ a0 := g2
      refine LdC_blk h2 rfl ?_
      refine CallC_intro (log_spec k (by omega) w1) (fun v w2 ⟨hv, f2⟩ => ?_)
      subst hv
      refine Sd_intro (by omega) ?_
      refine ⟨?_, f1.no f2⟩
      rw [if_neg (by omega)]
      show Value.int .i64 (shiftV .shr .i64 n ((k : Int)).toNat) = _
      rw [shr_small (by omega)]
theorem Card_spec (a0 a1 a3 a4 a5 n : Int) (k : Nat) (hk : k ≤ 20) (w : World) :
    CallC Pr f_geom_Geom_Card [geoV a0 a1 (2 ^ k) a3 a4 a5, .int .i64 n] w (fun v w' => v = .int .i64 (if n < 0 ∨ a0 ≤ n then -1 else n / 2 ^ k) ∧ Fr No w w') := by
  refine call_sound T_ok fun_geom_Geom_Card rfl (by kernel_rfl) rfl (Kp ?_)
  refine NewC_blk (fun b w1 hb h2 f1 _ => ?_)
  refine Br_dec (fun g => ?_) (fun g => ?_)
  · exact ⟨by rw [if_pos (.inl g)]; rfl, f1⟩
  · have g : ¬ n < 0 := g
    refine LdC_blk h2 rfl ?_
    refine Br_dec (fun g2 => ?_) (fun g2 => ?_)
    · have g2 : n ≥ a0 := g2
      exact ⟨by rw [if_pos (.inr (by omega))]; rfl, f1⟩
    · have g2 : ¬ n ≥ a0 := g2
      refine LdC_blk h2 rfl ?_
      refine CallC_intro (log_spec k (by omega) w1) (fun v w2 ⟨hv, f2⟩ => ?_)
      subst hv
      refine Sd_intro (by omega) ?_
      refine ⟨?_, f1.no f2⟩
      rw [if_neg (by omega)]
      show Value.int .i64 (shiftV .shr .i64 n ((k : Int)).toNat) = _
      rw [shr_small (by omega)]
theorem Base_spec (a0 a2 a3 a4 a5 n : Int) (k : Nat) (hk : k ≤ 20) (hm : a3 * 2 ^ k ≤ 4194304) (w : World) :
    CallC Pr f_geom_Geom_Base [geoV a0 (2 ^ k) a2 a3 a4 a5, .int .i64 n] w (fun v w' => v = (if n < 0 ∨ a3 ≤ n then .tuple #[.int .i64 0, .int .i64 2] else .tuple #[.int .i64 (n * 2 ^ k), .int .i64 0]) ∧ Fr No w w') := by
  refine call_sound T_ok fun_geom_Geom_Base rfl (by kernel_rfl) rfl (Kp ?_)
  refine NewC_blk (fun b w1 hb h2 f1 _ => ?_)
  refine Br_dec (fun g => ?_) (fun g => ?_)
  · exact ⟨by rw [if_pos (.inl g)]; rfl, f1⟩
  · have g : ¬ n < 0 := g
    refine LdC_blk h2 rfl ?_
    refine Br_dec (fun g2 => ?_) (fun g2 => ?_)
    · have g2 : n ≥ a3 := g2
      exact ⟨by rw [if_pos (.inr (by omega))]; rfl, f1⟩
    · have g2 : ¬ n ≥ a3 := g2
      refine LdC_blk h2 rfl ?_
      refine CallC_intro (log_spec k (by omega) w1) (fun v w2 ⟨hv, f2⟩ => ?_)
      subst hv
      refine Sd_intro (by omega) ?_
      refine ⟨?_, f1.no f2⟩
      rw [if_neg (by omega)]
      have p := pow_pos2 k
      have m0 := Int.mul_nonneg (show 0 ≤ n by omega) (show (0 : Int) ≤ 2 ^ k by omega)
      have m1 := Int.mul_le_mul_of_nonneg_right (show n ≤ a3 by omega) (show (0 : Int) ≤ 2 ^ k by omega)
      show Value.tuple #[.int .i64 (shiftV .shl .i64 n ((k : Int)).toNat), .int .i64 0] = _
      rw [shl_small (by omega) m0 (by omega)]
theorem First_spec (a0 a1 a3 a4 a5 n : Int) (k : Nat) (hk : k ≤ 20) (hm : a4 * 2 ^ k ≤ 4194304) (w : World) :
    CallC Pr f_geom_Geom_First [geoV a0 a1 (2 ^ k) a3 a4 a5, .int .i64 n] w (fun v w' => v = (if n < 0 ∨ a4 ≤ n then .tuple #[.int .i64 0, .int .i64 2] else .tuple #[.int .i64 (n * 2 ^ k), .int .i64 0]) ∧ Fr No w w') := by
  refine call_sound T_ok fun_geom_Geom_First rfl (by kernel_rfl) rfl (Kp ?_)
  refine NewC_blk (fun b w1 hb h2 f1 _ => ?_)
  refine Br_dec (fun g => ?_) (fun g => ?_)
  · exact ⟨by rw [if_pos (.inl g)]; rfl, f1⟩
  · have g : ¬ n < 0 := g
    refine LdC_blk h2 rfl ?_
    refine Br_dec (fun g2 => ?_) (fun g2 => ?_)
    · have g2 : n ≥ a4 := g2
      exact ⟨by rw [if_pos (.inr (by omega))]; rfl, f1⟩
    · have g2 : ¬ n ≥ a4 := g2
      refine LdC_blk h2 rfl ?_
      refine CallC_intro (log_spec k (by omega) w1) (fun v w2 ⟨hv, f2⟩ => ?_)
      subst hv
      refine Sd_intro (by omega) ?_
      refine ⟨?_, f1.no f2⟩
      rw [if_neg (by omega)]
      have p := pow_pos2 k
      have m0 := Int.mul_nonneg (show 0 ≤ n by omega) (show (0 : Int) ≤ 2 ^ k by omega)
      have m1 := Int.mul_le_mul_of_nonneg_right (show n ≤ a4 by omega) (show (0 : Int) ≤ 2 ^ k by omega)
      show Value.tuple #[.int .i64 (shiftV .shl .i64 n ((k : Int)).toNat), .int .i64 0] = _
      rw [shl_small (by omega) m0 (by omega)]
end Go.Proofs.YtdhbpklmkibmbaaGreat
/- Layer 2 (geom): Cross, awake, GeomSpans. -/
namespace Go.Proofs.YtdhbpklmkibmbaaGreat
open Go.Vc

theorem xor_small {x y : Int} (hx : 0 ≤ x ∧ x < 4294967296) (hy : 0 ≤ y ∧ y < 4294967296) : Vc.bits .xor .i64 x y = ((x.toNat ^^^ y.toNat : Nat) : Int) := by
  unfold Vc.bits
  have e : ∀ z : Int, 0 ≤ z ∧ z < 4294967296 → (BitVec.ofInt 64 z).toNat = z.toNat := fun z hz => by
    rw [BitVec.toNat_ofInt]
    have : z % ((2 ^ 64 : Nat) : Int) = z := Int.emod_eq_of_lt hz.1 (by omega)
    rw [this]
  show IntKind.i64.wrap ((BitVec.ofInt 64 x ^^^ BitVec.ofInt 64 y).toNat : Int) = _
  rw [BitVec.toNat_xor, e x hx, e y hy]
  have hlt : x.toNat ^^^ y.toNat < 2 ^ 32 := Nat.xor_lt_two_pow (by omega) (by omega)
  exact wrap_i64 (by omega) (by omega)
theorem xor_div {x y : Nat} (k : Nat) : ((x ^^^ y) / 2 ^ k = 0) ↔ x / 2 ^ k = y / 2 ^ k := by
  rw [← Nat.shiftRight_eq_div_pow, ← Nat.shiftRight_eq_div_pow, ← Nat.shiftRight_eq_div_pow, Nat.shiftRight_xor_distrib]
  generalize x >>> k = a
  generalize y >>> k = b
  constructor
  · intro h
    have : a ^^^ b ^^^ b = b := by rw [h, Nat.zero_xor]
    rw [Nat.xor_assoc, Nat.xor_self, Nat.xor_zero] at this
    exact this
  · intro h
    rw [h, Nat.xor_self]
theorem natdiv (x : Int) (h : 0 ≤ x) (k : Nat) : x / 2 ^ k = ((x.toNat / 2 ^ k : Nat) : Int) := by
  rw [Int.natCast_ediv, Int.toNat_of_nonneg h, Int.natCast_pow]
  rfl
theorem Cross_spec (a0 a2 a3 a4 a5 x y : Int) (k : Nat) (hk : k ≤ 20) (ha : a0 ≤ 4194304) (w : World) :
    CallC Pr f_geom_Geom_Cross [geoV a0 (2 ^ k) a2 a3 a4 a5, .int .i64 x, .int .i64 y] w
      (fun v w' => v = .bool (decide ((0 ≤ x ∧ x < a0) ∧ (0 ≤ y ∧ y < a0) ∧ x / 2 ^ k ≠ y / 2 ^ k)) ∧ Fr No w w') := by
  have p := pow_pos2 k
  refine call_sound T_ok fun_geom_Geom_Cross rfl (by kernel_rfl) rfl (Kp ?_)
  refine NewC_blk (fun b w1 hb h1 f1 _ => ?_)
  refine LdN_blk (vs := geoL a0 (2 ^ k) a2 a3 a4 a5) h1 rfl rfl ?_
  refine CallC_intro (Region_spec a0 a2 a3 a4 a5 x k hk w1) (fun v w2 ⟨hv, f2⟩ => ?_)
  subst hv
  have f2' := f1.no f2
  by_cases hx : 0 ≤ x ∧ x < a0
  · have ex : (if x < 0 ∨ a0 ≤ x then (-1 : Int) else x / 2 ^ k) = x / 2 ^ k := if_neg (by omega)
    refine Br_dt (show (if x < 0 ∨ a0 ≤ x then (-1 : Int) else x / 2 ^ k) ≥ 0 by rw [ex]; exact Int.ediv_nonneg hx.1 (by omega)) ?_
    refine LdN_blk (vs := geoL a0 (2 ^ k) a2 a3 a4 a5) (h1.keep f2 id) rfl rfl ?_
    refine CallC_intro (Region_spec a0 a2 a3 a4 a5 y k hk w2) (fun v w3 ⟨hv, f3⟩ => ?_)
    subst hv
    have f3' := f2'.no f3
    by_cases hy : 0 ≤ y ∧ y < a0
    · have ey : (if y < 0 ∨ a0 ≤ y then (-1 : Int) else y / 2 ^ k) = y / 2 ^ k := if_neg (by omega)
      refine Br_dt (show (if y < 0 ∨ a0 ≤ y then (-1 : Int) else y / 2 ^ k) ≥ 0 by rw [ey]; exact Int.ediv_nonneg hy.1 (by omega)) ?_
      refine LdC_blk ((h1.keep f2 id).keep f3 id) rfl ?_
      refine CallC_intro (log_spec k (by omega) w3) (fun v w4 ⟨hv, f4⟩ => ?_)
      subst hv
      refine Sd_intro (by omega) ?_
      refine ⟨?_, f3'.no f4⟩
      show Value.bool (!decide (shiftV .shr .i64 (Vc.bits .xor .i64 x y) ((k : Int)).toNat = 0)) = _
      rw [shr_small (by omega), xor_small (by omega) (by omega), natdiv _ (by omega), Int.toNat_natCast, natdiv x hx.1, natdiv y hy.1]
      congr 1
      rw [← decide_not]
      apply decide_eq_decide.2
      have := xor_div (x := x.toNat) (y := y.toNat) k
      constructor
      · intro h
        refine ⟨hx, hy, fun e => h ?_⟩
        have e : x.toNat / 2 ^ k = y.toNat / 2 ^ k := by exact_mod_cast e
        rw [this.2 e]; rfl
      · intro h e
        have e : (x.toNat ^^^ y.toNat) / 2 ^ k = 0 := by exact_mod_cast e
        exact h.2.2 (by rw [this.1 e])
    · have ey : (if y < 0 ∨ a0 ≤ y then (-1 : Int) else y / 2 ^ k) = -1 := if_pos (by omega)
      refine Br_df (show ¬ (if y < 0 ∨ a0 ≤ y then (-1 : Int) else y / 2 ^ k) ≥ 0 by rw [ey]; omega) ?_
      refine ⟨?_, f3'⟩
      show Value.bool false = _
      rw [decide_eq_false (fun h => hy h.2.1)]
  · have ex : (if x < 0 ∨ a0 ≤ x then (-1 : Int) else x / 2 ^ k) = -1 := if_pos (by omega)
    refine Br_df (show ¬ (if x < 0 ∨ a0 ≤ x then (-1 : Int) else x / 2 ^ k) ≥ 0 by rw [ex]; omega) ?_
    refine ⟨?_, f2'⟩
    show Value.bool false = _
    rw [decide_eq_false (fun h => hx h.1)]
end Go.Proofs.YtdhbpklmkibmbaaGreat
