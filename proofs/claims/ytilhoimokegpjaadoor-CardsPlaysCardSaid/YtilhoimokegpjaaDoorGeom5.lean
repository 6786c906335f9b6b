/- Layer 2 (geom): Cross, awake, GeomSpans. -/
import Derived.Test.YtilhoimokegpjaaDoorGeom4
namespace Go.Proofs.YtilhoimokegpjaaDoor
open Go.Vc

theorem xor_small {x y : Int} (hx : 0 ≤ x ∧ x < 4294967296) (hy : 0 ≤ y ∧ y < 4294967296) : Vc.bits .xor .i64 x y = ((x.toNat ^^^ y.toNat : Nat) : Int) := by
  unfold Vc.bits
  have e : ∀ z : Int, 0 ≤ z ∧ z < 4294967296 → (BitVec.ofInt 64 z).toNat = z.toNat := fun z hz => by
    rw [BitVec.toNat_ofInt]
    have : z % ((2 ^ 64 : Nat) : Int) = z := Int.emod_eq_of_lt hz.1 (by omega)
    rw [this]
  show IntKind.i64.wrap ((BitVec.ofInt 64 x ^^^ BitVec.ofInt 64 y).toNat : Int) = _
  rw [BitVec.toNat_xor, e x hx, e y hy]
  have hlt : x.toNat ^^^ y.toNat < 2 ^ 32 := Nat.xor_lt_two_pow (by omega) (by omega)
  exact wrap_i64 (by omega) (by omega)
theorem xor_div {x y : Nat} (k : Nat) : ((x ^^^ y) / 2 ^ k = 0) ↔ x / 2 ^ k = y / 2 ^ k := by
  rw [← Nat.shiftRight_eq_div_pow, ← Nat.shiftRight_eq_div_pow, ← Nat.shiftRight_eq_div_pow, Nat.shiftRight_xor_distrib]
  generalize x >>> k = a
  generalize y >>> k = b
  constructor
  · intro h
    have : a ^^^ b ^^^ b = b := by rw [h, Nat.zero_xor]
    rw [Nat.xor_assoc, Nat.xor_self, Nat.xor_zero] at this
    exact this
  · intro h
    rw [h, Nat.xor_self]
theorem natdiv (x : Int) (h : 0 ≤ x) (k : Nat) : x / 2 ^ k = ((x.toNat / 2 ^ k : Nat) : Int) := by
  rw [Int.natCast_ediv, Int.toNat_of_nonneg h, Int.natCast_pow]
  rfl
theorem Cross_spec (a0 a2 a3 a4 a5 x y : Int) (k : Nat) (hk : k ≤ 20) (ha : a0 ≤ 4194304) (w : World) :
    CallC Pr f_geom_Geom_Cross [geoV a0 (2 ^ k) a2 a3 a4 a5, .int .i64 x, .int .i64 y] w
      (fun v w' => v = .bool (decide ((0 ≤ x ∧ x < a0) ∧ (0 ≤ y ∧ y < a0) ∧ x / 2 ^ k ≠ y / 2 ^ k)) ∧ Fr No w w') := by
  have p := pow_pos2 k
  refine call_sound T_ok fun_geom_Geom_Cross rfl (by kernel_rfl) rfl ?_
  refine NewC_blk (fun b w1 hb h1 f1 _ => ?_)
  refine LdN_blk (vs := geoL a0 (2 ^ k) a2 a3 a4 a5) h1 rfl rfl ?_
  refine CallC_intro (Region_spec a0 a2 a3 a4 a5 x k hk w1) (fun v w2 ⟨hv, f2⟩ => ?_)
  subst hv
  have f2' := f1.no f2
  by_cases hx : 0 ≤ x ∧ x < a0
  · have ex : (if x < 0 ∨ a0 ≤ x then (-1 : Int) else x / 2 ^ k) = x / 2 ^ k := if_neg (by omega)
    refine Br_dt (show (if x < 0 ∨ a0 ≤ x then (-1 : Int) else x / 2 ^ k) ≥ 0 by rw [ex]; exact Int.ediv_nonneg hx.1 (by omega)) ?_
    refine LdN_blk (vs := geoL a0 (2 ^ k) a2 a3 a4 a5) (h1.keep f2 id) rfl rfl ?_
    refine CallC_intro (Region_spec a0 a2 a3 a4 a5 y k hk w2) (fun v w3 ⟨hv, f3⟩ => ?_)
    subst hv
    have f3' := f2'.no f3
    by_cases hy : 0 ≤ y ∧ y < a0
    · have ey : (if y < 0 ∨ a0 ≤ y then (-1 : Int) else y / 2 ^ k) = y / 2 ^ k := if_neg (by omega)
      refine Br_dt (show (if y < 0 ∨ a0 ≤ y then (-1 : Int) else y / 2 ^ k) ≥ 0 by rw [ey]; exact Int.ediv_nonneg hy.1 (by omega)) ?_
      refine LdC_blk ((h1.keep f2 id).keep f3 id) rfl ?_
      refine CallC_intro (log_spec k (by omega) w3) (fun v w4 ⟨hv, f4⟩ => ?_)
      subst hv
      refine Sd_intro (by omega) ?_
      refine ⟨?_, f3'.no f4⟩
      show Value.bool (!decide (shiftV .shr .i64 (Vc.bits .xor .i64 x y) ((k : Int)).toNat = 0)) = _
      rw [shr_small (by omega), xor_small (by omega) (by omega), natdiv _ (by omega), Int.toNat_natCast, natdiv x hx.1, natdiv y hy.1]
      congr 1
      rw [← decide_not]
      apply decide_eq_decide.2
      have := xor_div (x := x.toNat) (y := y.toNat) k
      constructor
      · intro h
        refine ⟨hx, hy, fun e => h ?_⟩
        have e : x.toNat / 2 ^ k = y.toNat / 2 ^ k := by exact_mod_cast e
        rw [this.2 e]; rfl
      · intro h e
        have e : (x.toNat ^^^ y.toNat) / 2 ^ k = 0 := by exact_mod_cast e
        exact h.2.2 (by rw [this.1 e])
    · have ey : (if y < 0 ∨ a0 ≤ y then (-1 : Int) else y / 2 ^ k) = -1 := if_pos (by omega)
      refine Br_df (show ¬ (if y < 0 ∨ a0 ≤ y then (-1 : Int) else y / 2 ^ k) ≥ 0 by rw [ey]; omega) ?_
      refine ⟨?_, f3'⟩
      show Value.bool false = _
      rw [decide_eq_false (fun h => hy h.2.1)]
  · have ex : (if x < 0 ∨ a0 ≤ x then (-1 : Int) else x / 2 ^ k) = -1 := if_pos (by omega)
    refine Br_df (show ¬ (if x < 0 ∨ a0 ≤ x then (-1 : Int) else x / 2 ^ k) ≥ 0 by rw [ex]; omega) ?_
    refine ⟨?_, f2'⟩
    show Value.bool false = _
    rw [decide_eq_false (fun h => hx h.1)]
end Go.Proofs.YtilhoimokegpjaaDoor
