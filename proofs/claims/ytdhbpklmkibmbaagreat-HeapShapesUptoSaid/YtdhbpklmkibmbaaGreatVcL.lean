/- Lists of whole numbers in memory. -/
import Derived.Test.YtdhbpklmkibmbaaGreatVcT
import Derived.Test.YtdhbpklmkibmbaaGreatVcI
namespace Go.Proofs.YtdhbpklmkibmbaaGreat
open Go.Vc
def ints (l : List Int) : List Value := l.map fun (n : Int) => .int .i64 n
theorem ints_len (l : List Int) : (ints l).length = l.length := by simp [ints]
theorem ints_get? {l : List Int} {k : Nat} {x : Int} (h : l[k]? = some x) : (ints l)[k]? = some (.int .i64 x) := by simp [ints, h]
theorem ints_append (a b : List Int) : ints (a ++ b) = ints a ++ ints b := by simp [ints]
/-- A slice of whole numbers of one's own. -/
def Own (w : World) (base : Nat) (v : Value) (l : List Int) : Prop := w.ownsRow base t_int 1 v l.length (ints l)
theorem Own.nil (w : World) (base : Nat) : Own w base (.slice none 0 0) [] := World.ownsRow_nil _ _ _ _
theorem Own.keep {w w' : World} {base : Nat} {v : Value} {l : List Int} {F : Nat → Prop} (h : Own w base v l) (f : Fr F w w') (hF : ∀ k, base ≤ k → ¬ F k) : Own w' base v l := own_keep h f hF
theorem Own.ge {w : World} {base : Nat} {v : Value} {l : List Int} (h : Own w base v l) (k : Nat) (hk : v.ownBlock = some k) : base ≤ k := own_ge h k hk
theorem Own.lt {w : World} {base : Nat} {v : Value} {l : List Int} (h : Own w base v l) (k : Nat) (hk : v.ownBlock = some k) : k < w.heap.size := (World.ownsRow.lt h k hk).2
/-- A slice of whole numbers, to be read. -/
def Ints (w : World) (v : Value) (l : List Int) : Prop := ∃ (a : Option Addr) (c : Nat), v = .slice a l.length c ∧ (l = [] ∨ ∃ x, a = some x ∧ ∀ (i : Nat) (z : Int), l[i]? = some z → w.cell? (x.add i) = some (.int .i64 z))
theorem Own.ints {w : World} {base : Nat} {v : Value} {l : List Int} (h : Own w base v l) : Ints w v l := by
  rcases own_cases h with ⟨rfl, h0, h1⟩ | ⟨g, cap, cur, hv, hb, hblk, ht, hn⟩
  · have : l = [] := List.eq_nil_of_length_eq_zero h0
    subst this
    exact ⟨none, 0, rfl, .inl rfl⟩
  · refine ⟨some ⟨g, 0, none⟩, cap, hv, .inr ⟨_, rfl, fun i z hi => ?_⟩⟩
    rw [add_of]
    refine hblk.cell ?_
    have := ints_get? hi
    rw [← ht, List.getElem?_take] at this
    split at this
    · rw [Nat.zero_add]; exact this
    · cases this
theorem Ints.keep {w w' : World} {v : Value} {l : List Int} {F : Nat → Prop} (h : Ints w v l) (f : Fr F w w') (hF : ∀ k, v.ownBlock = some k → ¬ F k) : Ints w' v l := by
  obtain ⟨a, c, rfl, h⟩ := h
  refine ⟨a, c, rfl, ?_⟩
  rcases h with h | ⟨x, rfl, h⟩
  · exact .inl h
  · refine .inr ⟨x, rfl, fun i z hi => ?_⟩
    have h1 := h i z hi
    have hb := World.block_lt_of_cell? w (x.add i) h1
    have eb : (x.add i).block = x.block := by unfold Addr.add; split <;> rfl
    unfold World.cell? at h1 ⊢
    rw [f.blk (x.add i).block hb (by rw [eb]; exact hF x.block rfl)]; exact h1
theorem Own.of_eq {w : World} {base : Nat} {v : Value} {l l' : List Int} (h : Own w base v l) (e : l = l') : Own w base v l' := e ▸ h
theorem Ints.of_eq {w : World} {v : Value} {l l' : List Int} (h : Ints w v l) (e : l = l') : Ints w v l' := e ▸ h
end Go.Proofs.YtdhbpklmkibmbaaGreat
