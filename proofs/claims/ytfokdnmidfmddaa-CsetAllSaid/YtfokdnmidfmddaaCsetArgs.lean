/- Candidates and numbers that came in. -/
import Derived.Test.YtfokdnmidfmddaaCset7
namespace Go.Proofs.Ytfokdnmidfmddaa
open Go.Vc Go.Sort

theorem ints_of_arg {w : World} {a : Option Addr} {len : Nat} {zs : List Int} (h : RowArg w .i64 a len zs) (cap : Nat) : ∃ l, Ints w (.slice a len cap) l := by
  rcases h with ⟨rfl, rfl, _⟩ | ⟨x, rfl, hl, hc⟩
  · exact ⟨[], none, cap, rfl, .inl rfl⟩
  · refine ⟨zs.take len, some x, cap, by rw [List.length_take, Nat.min_eq_left hl], .inr ⟨x, rfl, fun i z hi => ?_⟩⟩
    rw [List.getElem?_take] at hi
    split at hi
    · exact hc i z hi
    · cases hi
def candKs : List (Option IntKind) := [some .i64, some .i64]
theorem cands_of_arg {w : World} {a : Option Addr} {len : Nat} {css : List (List Value)} (h : RowsArg w 2 a len css) (hk : ∀ cs ∈ css, LeafRow candKs cs) (cap : Nat) : ∃ l, Cands w (.slice a len cap) l := by
  obtain ⟨hl, h⟩ := h
  have each : ∀ (i : Nat) (cs : List Value), css[i]? = some cs → cs = candL (cellInt cs[0]?, cellInt cs[1]?) := by
    intro i cs hi
    have hr := hk cs (List.mem_of_getElem? hi)
    obtain ⟨v0, r0, rfl, ⟨x, rfl, _⟩, h0⟩ := hr.cons
    obtain ⟨v1, r1, rfl, ⟨y, rfl, _⟩, h1⟩ := h0.cons
    obtain rfl := h1.nil
    rfl
  refine ⟨css.map fun cs => (cellInt cs[0]?, cellInt cs[1]?), a, cap, by rw [List.length_map, hl], fun e => ?_, fun x ex i z hi => ?_⟩
  · rcases h with h | ⟨x, hx, _⟩
    · have : css = [] := List.eq_nil_of_length_eq_zero (by omega)
      rw [this]; rfl
    · rw [e] at hx; cases hx
  · rcases h with h | ⟨x', hx, hc⟩
    · have : css = [] := List.eq_nil_of_length_eq_zero (by omega)
      rw [this] at hi; cases hi
    · rw [ex] at hx
      injection hx with hx
      subst hx
      rw [List.getElem?_map] at hi
      cases hcs : css[i]? with
      | none => rw [hcs] at hi; cases hi
      | some cs =>
        rw [hcs] at hi
        injection hi with hi
        have e1 := each i cs hcs
        have h2 := hc i cs hcs
        rw [e1] at h2
        have ea : ∀ m : Nat, (x.add (i * 2)).add m = x.add (i * 2 + m) := fun m => by
          unfold Addr.add; by_cases h1 : i * 2 = 0 <;> by_cases h2 : m = 0 <;> simp [h1, h2, Nat.add_assoc]
        have a0 := h2 0 _ rfl
        have a1 := h2 1 _ rfl
        rw [ea] at a0 a1
        rw [← hi]
        exact ⟨a0, a1⟩
end Go.Proofs.Ytfokdnmidfmddaa
