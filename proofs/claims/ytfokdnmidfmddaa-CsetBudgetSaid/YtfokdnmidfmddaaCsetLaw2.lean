/- Layer 18 (cset): the plain law of the budget. -/
import Derived.Test.YtfokdnmidfmddaaCsetLaw
namespace Go.Proofs.Ytfokdnmidfmddaa
open Go.Vc Go.Sort

/-- Candidates by number. -/
def enumL (zs : List Int) : List (Int × Int) := (List.range zs.length).map fun (i : Nat) => ((i : Int), zs[i]?.getD 0)
theorem enumL_len (zs : List Int) : (enumL zs).length = zs.length := by simp [enumL]
theorem enumL_get {zs : List Int} {i : Nat} (h : i < zs.length) : (enumL zs)[i]? = some ((i : Int), zs[i]) := by simp [enumL, h]
theorem enumL_mem {zs : List Int} {c : Int × Int} (h : c ∈ enumL zs) : ∃ i : Nat, i < zs.length ∧ c = ((i : Int), zs[i]?.getD 0) := by
  simp only [enumL, List.mem_map, List.mem_range] at h
  obtain ⟨i, hi, rfl⟩ := h
  exact ⟨i, hi, rfl⟩
/-- What a number's words are. -/
def lvOf (zs : List Int) (x : Int) : Int := zs[x.toNat]?.getD 0
def sumLv (zs : List Int) (a : List Int) : Int := (a.map (lvOf zs)).sum
theorem sum_perm {l l' : List Int} (h : l.Perm l') : l.sum = l'.sum := by
  induction h with
  | nil => rfl
  | cons x _ ih => simp [ih]
  | swap x y l => simp; omega
  | trans _ _ h1 h2 => exact h1.trans h2
structure Budget (zs : List Int) (b : Int) (a : List Int) : Prop where
  lt : ∀ x ∈ a, 0 ≤ x ∧ x < zs.length
  up : a.Pairwise (fun x y => x < y)
  sum : a = [] ∨ sumLv zs a ≤ b
  rest : ∀ i : Nat, i < zs.length → (i : Int) ∉ a → (∀ x ∈ a, lvOf zs x ≤ lvOf zs i) ∧ sumLv zs a + lvOf zs i > b
theorem budget_of {zs : List Int} {b : Int} {l : List (Int × Int)} (hz : ∀ z ∈ zs, 0 ≤ z) (hp : l.Perm (enumL zs)) (hs : Sorted l) : Budget zs b (resultL [] b l) := by
  obtain ⟨T, D, e1, e2, e3, e4⟩ := takeB_split b l
  have hmem : ∀ x, x ∈ resultL [] b l ↔ x ∈ T.map (·.1) := fun x => by rw [result_mem, e2]; simp
  have hin : ∀ c ∈ l, ∃ i : Nat, i < zs.length ∧ c = ((i : Int), zs[i]?.getD 0) := fun c hc => enumL_mem (hp.subset hc)
  have hlv : ∀ c ∈ l, liveK c = lvOf zs c.1 := by
    intro c hc
    obtain ⟨i, hi, rfl⟩ := hin c hc
    rw [liveK_le]
    show max (zs[i]?.getD 0) 0 = zs[((i : Int)).toNat]?.getD 0
    rw [Int.toNat_natCast, List.getElem?_eq_getElem hi]
    have := hz _ (List.getElem_mem hi)
    simp only [Option.getD_some]
    omega
  have hnd : (l.map (·.1)).Nodup := by
    have : ((enumL zs).map (·.1)).Nodup := by
      unfold enumL
      rw [List.map_map]
      refine List.pairwise_map.2 ?_
      refine List.Pairwise.imp ?_ (List.nodup_range (n := zs.length))
      intro a b hab e
      have e : (a : Int) = (b : Int) := e
      exact hab (by omega)
    exact (hp.map (·.1)).symm.nodup this
  have hT : (T.map (·.1)).Nodup := by
    rw [e1, List.map_append] at hnd
    exact (List.nodup_append.1 hnd).1
  have hst := result_strict [] b l
  have hna : (resultL [] b l).Nodup := hst.imp (fun h e => by omega)
  have hpm : (resultL [] b l).Perm (T.map (·.1)) := (List.perm_ext_iff_of_nodup hna hT).2 hmem
  have hTl : ∀ c ∈ T, c ∈ l := fun c hc => by rw [e1]; exact List.mem_append_left _ hc
  have hsum : sumLv zs (resultL [] b l) = sumK T := by
    unfold sumLv sumK
    rw [sum_perm (hpm.map (lvOf zs)), List.map_map]
    congr 1
    exact List.map_congr_left fun c hc => (hlv c (hTl c hc)).symm
  refine ⟨fun x hx => ?_, hst, ?_, fun i hi hni => ?_⟩
  · rw [hmem] at hx
    obtain ⟨c, hc, rfl⟩ := List.mem_map.1 hx
    obtain ⟨i, hi, rfl⟩ := hin c (hTl c hc)
    exact ⟨by show (0 : Int) ≤ i; omega, by show (i : Int) < _; omega⟩
  · rcases e3 with e3 | e3
    · left
      rw [e3] at hpm
      exact List.Perm.eq_nil hpm
    · right; rw [hsum]; exact e3
  · have hc : ((i : Int), zs[i]?.getD 0) ∈ l := hp.symm.subset (by
      have := enumL_get hi
      have h2 := List.mem_of_getElem? this
      rw [List.getElem?_eq_getElem hi]; exact h2)
    have hcD : ((i : Int), zs[i]?.getD 0) ∈ D := by
      rw [e1] at hc
      rcases List.mem_append.1 hc with h | h
      · exact absurd ((hmem _).2 (List.mem_map.2 ⟨_, h, rfl⟩)) hni
      · exact h
    have hle := hlv _ hc
    obtain ⟨j, hj, ej⟩ := List.getElem_of_mem hcD
    -- all of T, and the first of D, are not dearer
    have hord : ∀ (p : Nat) (c' : Int × Int), p ≤ T.length + j → l[p]? = some c' → liveK c' ≤ liveK ((i : Int), zs[i]?.getD 0) := by
      intro p c' hp' hc'
      by_cases e : p = T.length + j
      · have : l[p]? = some ((i : Int), zs[i]?.getD 0) := by rw [e1, e, List.getElem?_append_right (by omega), Nat.add_sub_cancel_left, List.getElem?_eq_getElem hj, ej]
        rw [this] at hc'
        injection hc' with hc'
        rw [hc']; exact Int.le_refl _
      · have h1 : l[T.length + j]? = some ((i : Int), zs[i]?.getD 0) := by rw [e1, List.getElem?_append_right (by omega), Nat.add_sub_cancel_left, List.getElem?_eq_getElem hj, ej]
        have := hs p (T.length + j) _ _ (by omega) hc' h1
        rw [cmpK_neg] at this
        omega
    refine ⟨fun x hx => ?_, ?_⟩
    · rw [hmem] at hx
      obtain ⟨c', hc', rfl⟩ := List.mem_map.1 hx
      obtain ⟨p, hp', ep⟩ := List.getElem_of_mem hc'
      have := hord p c' (by omega) (by rw [e1, List.getElem?_append_left hp', List.getElem?_eq_getElem hp', ep])
      rw [← hlv c' (hTl c' hc'), ← hle]; exact this
    · cases hD : D with
      | nil => rw [hD] at hcD; cases hcD
      | cons d r =>
        have h1 := e4 d r hD
        have h2 := hord T.length d (by omega) (by rw [e1, List.getElem?_append_right (Nat.le_refl _), Nat.sub_self, hD]; rfl)
        rw [hsum, ← hle]
        omega
end Go.Proofs.Ytfokdnmidfmddaa
