/- Layer 2 (geom): log, may, New. -/
import Derived.Test.YtilhoimokegpjaaDoorVcT
import Derived.Test.YtilhoimokegpjaaDoorVcI
namespace Go.Proofs.YtilhoimokegpjaaDoor
open Go.Vc

theorem pow_pos2 (k : Nat) : (1 : Int) ≤ 2 ^ k := by
  have : (0 : Int) < 2 ^ k := Int.pow_pos (by omega)
  omega
theorem pow_split {j k : Nat} (h : j ≤ k) : (2 : Int) ^ k = 2 ^ j * 2 ^ (k - j) := by rw [← Int.pow_add, Nat.add_sub_cancel' h]
theorem pow_div {j k : Nat} (h : j ≤ k) : (2 : Int) ^ k / 2 ^ j = 2 ^ (k - j) := by
  rw [pow_split h, Int.mul_ediv_cancel_left _ (by have := pow_pos2 j; omega)]
theorem pow_big {k : Nat} (h : 0 < k) : (2 : Int) ≤ 2 ^ k := by
  rw [pow_split (show 1 ≤ k by omega)]
  have := pow_pos2 (k - 1)
  show (2 : Int) ≤ 2 ^ 1 * 2 ^ (k - 1)
  rw [Int.pow_one]; omega
theorem pow_le {j k : Nat} (h : j ≤ k) : (2 : Int) ^ j ≤ 2 ^ k := by
  rw [pow_split h]
  have h1 := pow_pos2 j
  have h2 := pow_pos2 (k - j)
  have := Int.mul_le_mul_of_nonneg_left h2 (show (0 : Int) ≤ 2 ^ j by omega)
  omega
theorem log_spec (k : Nat) (hk : k ≤ 40) (w : World) : CallC Pr f_geom_log [.int .i64 (2 ^ k)] w (fun v w' => v = .int .u64 k ∧ Fr No w w') := by
  generalize hn : (2 : Int) ^ k = n
  refine call_sound T_ok fun_geom_log rfl (by kernel_rfl) rfl ?_
  refine LoopC_intro (α := Int) (fun j => [(0, .int .i64 n), (3, .int .u64 j)]) (fun m j w1 => Fr No w w1 ∧ 0 ≤ j ∧ j ≤ k ∧ m = (k - j).toNat)
    (k - 0 : Int).toNat 0 ⟨rfl, rfl, trivial⟩ ⟨Fr.refl _ _, (show (0 : Int) ≤ 0 by omega), (show (0 : Int) ≤ k by omega), rfl⟩ ?_
  rintro m j w1 ⟨hF, j0, j1, hm⟩
  refine Sd_intro j0 ?_
  have e : shiftV .shr .i64 n j.toNat = 2 ^ (k - j.toNat) := by rw [shr_i64 n (by omega), ← hn, pow_div (by omega)]
  refine Br_dec (fun g => ?_) (fun g => ?_)
  · have g : shiftV .shr .i64 n j.toNat > 1 := g
    rw [e] at g
    have hlt : j < k := by
      by_cases h : j < k
      · exact h
      · rw [show k - j.toNat = 0 by omega, Int.pow_zero] at g; omega
    have e1 : IntKind.u64.wrap (j + 1) = j + 1 := wrap_u64 (by omega) (by omega)
    refine ⟨(k - (j + 1)).toNat, _, by omega, ?_, j + 1, rfl, hF, by omega, by omega, rfl⟩
    exact ⟨rfl, look_int rfl e1, trivial⟩
  · have g : ¬ shiftV .shr .i64 n j.toNat > 1 := g
    rw [e] at g
    have : j = k := by
      by_cases h : j < k
      · have := pow_big (k := k - j.toNat) (by omega)
        omega
      · omega
    subst this
    exact ⟨rfl, hF⟩
end Go.Proofs.YtilhoimokegpjaaDoor
