/- Layer 18 (cset): the plain law of what is chosen. -/
import Derived.Test.YtfokdnmidfmddaaCset5
namespace Go.Proofs.Ytfokdnmidfmddaa
open Go.Vc Go.Sort

theorem strict_eq {a b : List Int} (ha : a.Pairwise (fun x y => x < y)) (hb : b.Pairwise (fun x y => x < y)) (h : ∀ x, x ∈ a ↔ x ∈ b) : a = b := by
  have na : a.Nodup := ha.imp (fun h e => by omega)
  have nb : b.Nodup := hb.imp (fun h e => by omega)
  exact List.Perm.eq_of_pairwise (le := fun x y => x < y) (fun x y _ _ h1 h2 => by omega) ha hb ((List.perm_ext_iff_of_nodup na nb).2 h)
theorem ddN_all {S : List Int} (hs : S.Pairwise (fun x y => x ≤ y)) : ∀ n, n ≤ S.length → (ddN S n).Pairwise (fun x y => x < y) ∧ ∀ x, x ∈ ddN S n ↔ x ∈ S.take n := by
  intro n
  induction n with
  | zero => intro _; exact ⟨List.Pairwise.nil, fun x => by simp [ddN]⟩
  | succ n ih =>
    intro hn
    obtain ⟨h1, h2⟩ := ih (by omega)
    have hx : S[n]? = some S[n] := List.getElem?_eq_getElem (by omega)
    have ht : S.take (n + 1) = S.take n ++ [S[n]] := by rw [List.take_add_one, hx]; rfl
    by_cases e : 0 < n ∧ S[n - 1]? = some S[n]
    · rw [ddN_eq hx e.1 e.2]
      refine ⟨h1, fun x => ?_⟩
      rw [h2, ht, List.mem_append]
      constructor
      · exact .inl
      · rintro (h | h)
        · exact h
        · simp at h
          rw [h]
          have h3 : S[n - 1]? = some S[n] := e.2
          have : (S.take n)[n - 1]? = some S[n] := by rw [List.getElem?_take, if_pos (by omega), h3]
          exact List.mem_of_getElem? this
    · rw [ddN_ne hx e]
      refine ⟨List.pairwise_append.2 ⟨h1, List.pairwise_singleton _ _, fun x hx' y hy => ?_⟩, fun x => ?_⟩
      · simp at hy
        subst hy
        rw [h2] at hx'
        obtain ⟨i, hi, ei⟩ := List.getElem_of_mem hx'
        rw [List.length_take] at hi
        rw [List.getElem_take] at ei
        have hw := List.pairwise_iff_getElem.1 hs
        have h4 : x ≤ S[n - 1] := by
          by_cases hin : i = n - 1
          · subst hin; omega
          · rw [← ei]; exact hw i (n - 1) (by omega) (by omega) (by omega)
        have h5 := hw (n - 1) n (by omega) (by omega) (by omega)
        have h6 : S[n - 1] ≠ S[n] := fun e2 => e ⟨by omega, by rw [List.getElem?_eq_getElem (by omega), e2]⟩
        omega
      · rw [List.mem_append, h2, ht, List.mem_append]
/-- What Choose answers. -/
def resultL (young : List Int) (b : Int) (l : List (Int × Int)) : List Int := ddN (chosen young b l) (chosen young b l).length
theorem chosen_sorted (young : List Int) (b : Int) (l : List (Int × Int)) : (chosen young b l).Pairwise (fun x y => x ≤ y) := by
  unfold chosen
  have := List.pairwise_mergeSort (le := fun x y : Int => decide (x ≤ y)) (fun a b c h1 h2 => by simp at *; omega) (fun a b => by simp; omega) (young ++ takeB b l)
  exact this.imp (fun h => by simpa using h)
theorem result_strict (young : List Int) (b : Int) (l : List (Int × Int)) : (resultL young b l).Pairwise (fun x y => x < y) := (ddN_all (chosen_sorted young b l) _ (Nat.le_refl _)).1
theorem result_mem (young : List Int) (b : Int) (l : List (Int × Int)) (x : Int) : x ∈ resultL young b l ↔ x ∈ young ∨ x ∈ takeB b l := by
  unfold resultL
  rw [(ddN_all (chosen_sorted young b l) _ (Nat.le_refl _)).2, List.take_length]
  unfold chosen
  rw [List.mem_mergeSort, List.mem_append]
def keyK (c : Int × Int) : Int × Int := (liveK c, c.1)
theorem takeB_keys : ∀ (b : Int) (l l' : List (Int × Int)), l.map keyK = l'.map keyK → takeB b l = takeB b l' := by
  intro b l
  induction l generalizing b with
  | nil => intro l' h; cases l' with
    | nil => rfl
    | cons c r => cases h
  | cons c r ih =>
    intro l' h
    cases l' with
    | nil => cases h
    | cons c' r' =>
      simp only [List.map_cons, List.cons.injEq] at h
      obtain ⟨h1, h2⟩ := h
      have e1 : liveK c = liveK c' := (Prod.mk.injEq _ _ _ _ ▸ h1 : _ ∧ _).1
      have e2 : c.1 = c'.1 := (Prod.mk.injEq _ _ _ _ ▸ h1 : _ ∧ _).2
      by_cases g : liveK c > b
      · rw [takeB_nil g, takeB_nil (by omega)]
      · rw [takeB_cons g, takeB_cons (by omega), e1, e2, ih _ _ h2]
def leK (p q : Int × Int) : Prop := p.1 < q.1 ∨ (p.1 = q.1 ∧ p.2 ≤ q.2)
theorem Sorted.keys {l : List (Int × Int)} (h : Sorted l) : (l.map keyK).Pairwise leK := by
  rw [List.pairwise_map, List.pairwise_iff_getElem]
  intro i j hi hj hij
  have := h i j _ _ hij (List.getElem?_eq_getElem hi) (List.getElem?_eq_getElem hj)
  rw [cmpK_neg] at this
  unfold leK keyK
  simp only
  omega
theorem keys_eq {l l' : List (Int × Int)} (h : Sorted l) (h' : Sorted l') (p : l.Perm l') : l.map keyK = l'.map keyK :=
  List.Perm.eq_of_pairwise (le := leK) (fun a b _ _ h1 h2 => by unfold leK at h1 h2; exact Prod.ext (by omega) (by omega)) h.keys h'.keys (p.map keyK)
theorem result_eq {young : List Int} {b : Int} {l l' : List (Int × Int)} (h : Sorted l) (h' : Sorted l') (p : l.Perm l') : resultL young b l = resultL young b l' := by
  unfold resultL chosen
  rw [takeB_keys b l l' (keys_eq h h' p)]
def sumK (l : List (Int × Int)) : Int := (l.map liveK).sum
theorem takeB_split : ∀ (b : Int) (l : List (Int × Int)), ∃ T D, l = T ++ D ∧ takeB b l = T.map (·.1) ∧ (T = [] ∨ sumK T ≤ b) ∧ ∀ d r, D = d :: r → liveK d > b - sumK T := by
  intro b l
  induction l generalizing b with
  | nil => exact ⟨[], [], rfl, rfl, .inl rfl, fun d r e => by cases e⟩
  | cons c r ih =>
    by_cases g : liveK c > b
    · exact ⟨[], c :: r, rfl, by rw [takeB_nil g]; rfl, .inl rfl, fun d r' e => by injection e with e1 e2; subst e1; show liveK c > b - 0; omega⟩
    · obtain ⟨T, D, e1, e2, e3, e4⟩ := ih (b - liveK c)
      have es : sumK (c :: T) = liveK c + sumK T := by simp [sumK]
      refine ⟨c :: T, D, by rw [e1]; rfl, by rw [takeB_cons g, e2]; rfl, .inr ?_, fun d r' e => ?_⟩
      · rw [es]
        rcases e3 with e3 | e3
        · subst e3; show liveK c + 0 ≤ b; omega
        · omega
      · have := e4 d r' e
        rw [es]; omega
end Go.Proofs.Ytfokdnmidfmddaa
