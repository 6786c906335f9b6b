/- Layer 1 (bits): Count, Fill, List. -/
import Derived.Test.YtilhoimokegpjaaBitsD
namespace Go.Proofs.Ytilhoimokegpjaa
open Go.Vc

/-- Those of a set from one number on, below another. -/
def within (S : Nat → Bool) (a b : Int) : Nat → Bool := fun p => decide (a ≤ (p : Int) ∧ (p : Int) < b) && S p
def bfill (S : Nat → Bool) (a b : Int) (on : Bool) : Nat → Bool := fun p => if a ≤ (p : Int) ∧ (p : Int) < b then on else S p
/-- The numbers of a set below m. -/
def elems (S : Nat → Bool) : Nat → List Int
  | 0 => []
  | m + 1 => elems S m ++ (if S m = true then [(m : Int)] else [])
theorem elems_le (S : Nat → Bool) (m : Nat) : (elems S m).length ≤ m := by
  induction m with
  | zero => exact Nat.le_refl _
  | succ m ih => simp only [elems, List.length_append]; split <;> simp <;> omega
theorem elems_more {S : Nat → Bool} {m n : Nat} (hmn : m ≤ n) (h : ∀ j, m ≤ j → j < n → S j = false) : elems S n = elems S m := by
  obtain ⟨d, rfl⟩ : ∃ d, n = m + d := ⟨n - m, by omega⟩
  clear hmn
  induction d with
  | zero => rfl
  | succ d ih =>
    show elems S (m + d + 1) = _
    simp only [elems]
    rw [ih (fun j h1 h2 => h j h1 (by omega)), h (m + d) (by omega) (by omega)]; simp
theorem elems_congr {S S' : Nat → Bool} {m : Nat} (h : ∀ j, j < m → S j = S' j) : elems S m = elems S' m := by
  induction m with
  | zero => rfl
  | succ m ih => simp only [elems]; rw [ih (fun j hj => h j (by omega)), h m (by omega)]
theorem elems_cnt (S : Nat → Bool) (m : Nat) : (elems S m).length = cnt S m := by
  induction m with
  | zero => rfl
  | succ m ih => simp only [elems, cnt, List.length_append, ih]; cases S m <;> simp
end Go.Proofs.Ytilhoimokegpjaa
