/- The law's world: its rows, their addresses known. -/
import Derived.Test.YthmkimnpdnmahaaBegin
namespace Go.Proofs.Ythmkimnpdnmahaa
open Go.Vc

theorem WorldAt.mcell {w : World} {z : Nat → Nat} {hb gb wb : Nat} {p : WP} {s : WS} (h : WorldAt w z hb gb wb p s) {t : Nat} (h1 : t < p.ms.length) :
    ∃ g cap cur b, p.mv = .slice (some ⟨g, 0, none⟩) p.ms.length cap ∧ Blk w g t_p_mutate_Mutator cur ∧ cur[0 + t * 1]? = some (ptr b) ∧ p.ms[t]? = some b ∧ z g = 313 := by
  rcases own_cases h.mrow with ⟨_, hn, _⟩ | ⟨g, cap, cur, hv, _, hc, ht, _⟩
  · omega
  · have hb := List.getElem?_eq_getElem h1
    refine ⟨g, cap, cur, _, hv, hc, ?_, hb, h.mrowz g (by rw [hv]; rfl)⟩
    have : (p.ms.map ptr)[t]? = some (ptr p.ms[t]) := by rw [List.getElem?_map, hb]; rfl
    rw [← ht, List.getElem?_take, if_pos (by omega)] at this
    rw [Nat.zero_add, Nat.mul_one]; exact this
end Go.Proofs.Ythmkimnpdnmahaa
