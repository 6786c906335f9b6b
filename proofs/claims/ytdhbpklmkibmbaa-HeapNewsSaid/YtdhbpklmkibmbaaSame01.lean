/- Rows of bools; two lists of numbers held against one another (gleanerref01.Same). -/
import Derived.Test.YtdhbpklmkibmbaaVcL
namespace Go.Proofs.Ytdhbpklmkibmbaa
open Go.Vc
def bools (S : Nat → Bool) (n : Nat) : List Value := (List.range n).map fun i => .bool (S i)
def upd (S : Nat → Bool) (k : Nat) (on : Bool) : Nat → Bool := fun j => if j = k then on else S j
theorem bools_get {S : Nat → Bool} {n k : Nat} (h : k < n) : (bools S n)[k]? = some (.bool (S k)) := by simp [bools, h]
theorem bools_len (S : Nat → Bool) (n : Nat) : (bools S n).length = n := by simp [bools]
theorem bools_congr {S S' : Nat → Bool} {n : Nat} (h : ∀ j, j < n → S j = S' j) : bools S n = bools S' n := by
  unfold bools
  refine List.map_congr_left fun i hi => ?_
  rw [h i (List.mem_range.1 hi)]
theorem bools_false {n : Nat} : bools (fun _ => false) n = List.replicate n (.bool false) := by
  apply List.ext_getElem
  · simp [bools]
  · intro i h1 h2; simp [bools]
theorem bools_set (S : Nat → Bool) (n k : Nat) (on : Bool) : (bools S n).set k (.bool on) = bools (upd S k on) n := by
  apply List.ext_getElem?
  intro i
  rw [List.getElem?_set]
  unfold bools upd
  by_cases h : k = i
  · subst h
    by_cases hk : k < n
    · simp [hk]
    · simp [hk]
  · rw [if_neg h]
    by_cases hi : i < n
    · simp [hi, Ne.symm h]
    · simp [hi]
theorem Ints.cell {w : World} {a : Option Addr} {n c : Nat} {l : List Int} (h : Ints w (.slice a n c) l) {i : Nat} (hi : i < l.length) : ∃ x, a = some x ∧ w.cell? (x.add i) = some (.int .i64 l[i]) := by
  obtain ⟨a', c', he, h⟩ := h
  injection he with e1 e2 e3
  subst e1
  rcases h with h | ⟨x, rfl, h⟩
  · subst h; cases hi
  · exact ⟨x, rfl, h i _ (List.getElem?_eq_getElem hi)⟩
end Go.Proofs.Ytdhbpklmkibmbaa
