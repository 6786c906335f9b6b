/- Layer 18 (cset): the plain law of picking the least each time. -/
import Derived.Test.YtfokdnmidfmddaaCsetLaw
namespace Go.Proofs.Ytfokdnmidfmddaa
open Go.Vc Go.Sort

theorem sorted_iff (l : List (Int × Int)) : Sorted l ↔ l.Pairwise (fun a b => ¬ cmpK b a < 0) := by
  rw [List.pairwise_iff_getElem]
  constructor
  · intro h i j hi hj hij
    exact h i j _ _ hij (List.getElem?_eq_getElem hi) (List.getElem?_eq_getElem hj)
  · intro h i j a b hij ha hb
    obtain ⟨hi, rfl⟩ := List.getElem?_eq_some_iff.1 ha
    obtain ⟨hj, rfl⟩ := List.getElem?_eq_some_iff.1 hb
    exact h i j hi hj hij
def getC (l : List (Int × Int)) (j : Nat) : Int × Int := l[j]?.getD (0, 0)
theorem getC_eq {l : List (Int × Int)} {j : Nat} (h : j < l.length) : l[j]? = some (getC l j) := by unfold getC; rw [List.getElem?_eq_getElem h]; rfl
def picks (l : List (Int × Int)) (ix : List Nat) : List (Int × Int) := ix.map (getC l)
theorem range_picks (l : List (Int × Int)) : picks l (List.range l.length) = l := by
  apply List.ext_getElem?
  intro i
  unfold picks
  rw [List.getElem?_map]
  by_cases h : i < l.length
  · rw [List.getElem?_range h, getC_eq h]; rfl
  · rw [List.getElem?_eq_none (by simp; omega), List.getElem?_eq_none (by omega)]; rfl
theorem split_perm {n : Nat} {ix : List Nat} (nd : ix.Nodup) (lt : ∀ j ∈ ix, j < n) : (ix ++ (List.range n).filter (fun j => !decide (j ∈ ix))).Perm (List.range n) := by
  refine (List.perm_ext_iff_of_nodup ?_ List.nodup_range).2 fun j => ?_
  · refine List.nodup_append.2 ⟨nd, List.nodup_range.filter _, fun a ha b hb e => ?_⟩
    subst e
    have := (List.mem_filter.1 hb).2
    simp at this
    exact this ha
  · rw [List.mem_append, List.mem_filter, List.mem_range]
    constructor
    · rintro (h | h)
      · exact lt j h
      · exact h.1
    · intro h
      by_cases hj : j ∈ ix
      · exact .inl hj
      · exact .inr ⟨h, by simp [hj]⟩
/-- Not all are picked yet. -/
theorem left_one {n : Nat} {ix : List Nat} (nd : ix.Nodup) (lt : ∀ j ∈ ix, j < n) (h : ix.length < n) : ∃ j, j < n ∧ j ∉ ix := by
  have hp := (split_perm nd lt).length_eq
  rw [List.length_append, List.length_range] at hp
  cases hf : (List.range n).filter (fun j => !decide (j ∈ ix)) with
  | nil => rw [hf] at hp; simp at hp; omega
  | cons j r =>
    have : j ∈ (List.range n).filter (fun j => !decide (j ∈ ix)) := by rw [hf]; exact List.mem_cons_self
    obtain ⟨h1, h2⟩ := List.mem_filter.1 this
    exact ⟨j, List.mem_range.1 h1, by simpa using h2⟩
theorem pick_end {l : List (Int × Int)} {ix : List Nat} {b bud : Int} (nd : ix.Nodup) (lt : ∀ j ∈ ix, j < l.length) (hs : Sorted (picks l ix)) (hc : ∀ j, j < l.length → j ∉ ix → ∀ c ∈ picks l ix, ¬ cmpK (getC l j) c < 0)
    (hb : ∀ Q, takeB b (picks l ix ++ Q) = (picks l ix).map (·.1) ++ takeB bud Q) (he : ∀ j, j < l.length → j ∉ ix → liveK (getC l j) > bud) : ∃ l', l'.Perm l ∧ Sorted l' ∧ takeB b l' = (picks l ix).map (·.1) := by
  have hrest : ∀ c ∈ picks l ((List.range l.length).filter (fun j => !decide (j ∈ ix))), ∃ j, j < l.length ∧ j ∉ ix ∧ c = getC l j := by
    intro c hc
    obtain ⟨j, hj, rfl⟩ := List.mem_map.1 hc
    obtain ⟨h1, h2⟩ := List.mem_filter.1 hj
    exact ⟨j, List.mem_range.1 h1, by simpa using h2, rfl⟩
  generalize hR : picks l ((List.range l.length).filter (fun j => !decide (j ∈ ix))) = R at hrest
  have hD : (R.mergeSort fun a b => decide (¬ cmpK b a < 0)).Pairwise (fun a b => ¬ cmpK b a < 0) := by
    have := List.pairwise_mergeSort (le := fun a b : Int × Int => decide (¬ cmpK b a < 0)) (fun a b c h1 h2 => by
      rw [decide_eq_true_iff, cmpK_neg] at *
      omega) (fun a b => by
      rw [Bool.or_eq_true, decide_eq_true_iff, decide_eq_true_iff, cmpK_neg, cmpK_neg]
      omega) R
    exact this.imp (fun h => of_decide_eq_true h)
  have hDm : ∀ c ∈ R.mergeSort fun a b => decide (¬ cmpK b a < 0), c ∈ R := fun c hc => List.mem_mergeSort.1 hc
  have hDp := List.mergeSort_perm R fun a b => decide (¬ cmpK b a < 0)
  generalize (R.mergeSort fun a b => decide (¬ cmpK b a < 0)) = D at hD hDm hDp
  refine ⟨picks l ix ++ D, ?_, ?_, ?_⟩
  · refine ((List.Perm.refl _).append hDp).trans ?_
    rw [← hR]
    have h1 : picks l ix ++ picks l ((List.range l.length).filter (fun j => !decide (j ∈ ix))) = picks l (ix ++ (List.range l.length).filter (fun j => !decide (j ∈ ix))) := by simp [picks]
    rw [h1]
    have h2 := (split_perm nd lt).map (getC l)
    have h3 : (List.range l.length).map (getC l) = l := range_picks l
    rw [h3] at h2
    exact h2
  · rw [sorted_iff]
    refine List.pairwise_append.2 ⟨(sorted_iff _).1 hs, hD, fun x hx y hy => ?_⟩
    obtain ⟨j, h1, h2, rfl⟩ := hrest y (hDm y hy)
    exact hc j h1 h2 x hx
  · rw [hb]
    cases D with
    | nil => exact List.append_nil _
    | cons d r =>
      obtain ⟨j, h1, h2, rfl⟩ := hrest d (hDm d List.mem_cons_self)
      rw [takeB_nil (he j h1 h2), List.append_nil]
/-- One more is picked. -/
theorem pick_more {l : List (Int × Int)} {ix : List Nat} {b bud : Int} {k : Nat} (nd : ix.Nodup) (lt : ∀ j ∈ ix, j < l.length) (hs : Sorted (picks l ix)) (hc : ∀ j, j < l.length → j ∉ ix → ∀ c ∈ picks l ix, ¬ cmpK (getC l j) c < 0)
    (hb : ∀ Q, takeB b (picks l ix ++ Q) = (picks l ix).map (·.1) ++ takeB bud Q) (hk : k < l.length) (hn : k ∉ ix) (hm : ∀ j, j < l.length → j ∉ ix → ¬ cmpK (getC l j) (getC l k) < 0) (hl : ¬ liveK (getC l k) > bud) :
    (ix ++ [k]).Nodup ∧ (∀ j ∈ ix ++ [k], j < l.length) ∧ Sorted (picks l (ix ++ [k])) ∧ (∀ j, j < l.length → j ∉ ix ++ [k] → ∀ c ∈ picks l (ix ++ [k]), ¬ cmpK (getC l j) c < 0) ∧
      (∀ Q, takeB b (picks l (ix ++ [k]) ++ Q) = (picks l (ix ++ [k])).map (·.1) ++ takeB (bud - liveK (getC l k)) Q) := by
  have e : picks l (ix ++ [k]) = picks l ix ++ [getC l k] := by simp [picks]
  refine ⟨List.nodup_append.2 ⟨nd, by simp, fun a ha b' hb' e' => by simp at hb'; exact hn (by rw [← hb', ← e']; exact ha)⟩, fun j hj => ?_, ?_, fun j h1 h2 c hc' => ?_, fun Q => ?_⟩
  · rcases List.mem_append.1 hj with h | h
    · exact lt j h
    · simp at h; subst h; exact hk
  · rw [e, sorted_iff]
    refine List.pairwise_append.2 ⟨(sorted_iff _).1 hs, List.pairwise_singleton _ _, fun x hx y hy => ?_⟩
    simp at hy
    subst hy
    exact hc k hk hn x hx
  · rw [e] at hc'
    have h3 : j ∉ ix := fun h => h2 (List.mem_append_left _ h)
    rcases List.mem_append.1 hc' with h | h
    · exact hc j h1 h3 c h
    · simp at h; subst h; exact hm j h1 h3
  · rw [e, List.append_assoc, hb]
    show _ ++ takeB bud (getC l k :: Q) = _
    rw [takeB_cons hl]
    simp
end Go.Proofs.Ytfokdnmidfmddaa
