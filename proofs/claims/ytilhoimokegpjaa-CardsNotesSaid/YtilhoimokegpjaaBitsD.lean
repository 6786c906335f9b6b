/- Layer 1 (bits): Next, Count, Fill, List. -/
import Derived.Test.YtilhoimokegpjaaBitsC
namespace Go.Proofs.Ytilhoimokegpjaa
open Go.Vc

/-- The least number of a set from one on; -1: there is none. -/
def NextIs (S : Nat → Bool) (i : Nat) (v : Int) : Prop :=
  (v = -1 ∧ ∀ p, i ≤ p → S p = false) ∨ ∃ p : Nat, v = p ∧ i ≤ p ∧ S p = true ∧ ∀ q, i ≤ q → q < p → S q = false
theorem NextIs.uniq {S : Nat → Bool} {i : Nat} {v v' : Int} (h : NextIs S i v) (h' : NextIs S i v') : v = v' := by
  rcases h with ⟨rfl, h⟩ | ⟨p, rfl, h1, h2, h3⟩ <;> rcases h' with ⟨rfl, g⟩ | ⟨q, rfl, g1, g2, g3⟩
  · rfl
  · rw [h q g1] at g2; cases g2
  · rw [g p h1] at h2; cases h2
  · have : p = q := by
      rcases Nat.lt_trichotomy p q with h | h | h
      · rw [g3 p h1 h] at h2; cases h2
      · exact h
      · rw [h3 q g1 h] at g2; cases g2
    rw [this]
theorem NextIs.congr {S S' : Nat → Bool} {i : Nat} {v : Int} (h : NextIs S i v) (e : ∀ p, S p = S' p) : NextIs S' i v := by
  have : S = S' := funext e
  exact this ▸ h
theorem bit_shift {x d j : Nat} (hx : x < 2 ^ 64) : ((x >>> d) <<< d % 2 ^ 64).testBit j = (decide (d ≤ j) && x.testBit j) := by
  rw [shlN_bit, shrN_bit]
  by_cases h : d ≤ j
  · rw [show d + (j - d) = j by omega]
    by_cases hj : j < 64
    · simp [hj]
    · have := bit_hi hx (show 64 ≤ j by omega)
      simp [this]
  · simp [h]
theorem no_bit {x : Nat} (hx : x < 2 ^ 64) (h : ∀ j, j < 64 → x.testBit j = false) : x = 0 := by
  apply Nat.eq_of_testBit_eq
  intro j
  rw [Nat.zero_testBit]
  by_cases hj : j < 64
  · exact h j hj
  · exact bit_hi hx (by omega)
end Go.Proofs.Ytilhoimokegpjaa
