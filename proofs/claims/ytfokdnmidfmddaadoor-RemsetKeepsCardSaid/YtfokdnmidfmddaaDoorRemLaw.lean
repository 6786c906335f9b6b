/- Layer 11 (remset): what the calls do to what is had. -/
import Derived.Test.YtfokdnmidfmddaaDoorRemApart
namespace Go.Proofs.YtfokdnmidfmddaaDoor
open Go.Vc

/-- What holds of sets that were built by calls. -/
structure AOk (n per : Int) (A : Abs) : Prop where
  sp : ∀ k l, A k = .sp l → l.length ≤ 4 ∧ l.Nodup ∧ ∀ x ∈ l, 0 ≤ x ∧ x < n * per ∧ x / per = k.2
  fi : ∀ k S, A k = .fi S → ∀ j, S j = true → (j : Int) < per
  ok : ∀ k, A k ≠ .sp [] → okK n k
  five : ∀ hm, (finesA n A hm).length ≤ 4
theorem RS.aok {w : World} {b : Nat} {B : Nat → Prop} {n per : Int} {A : Abs} (h : RS w b B n per A) : AOk n per A := by
  obtain ⟨m1, m2, m3, sp, fi, co, hG, g, hB, hBs⟩ := h
  have ndf : (fi.map (·.k)).Nodup := by rw [← fiM_keys]; exact hG.map2.nodup
  refine ⟨fun k l e => ?_, fun k S e => ?_, fun k hk => ?_, fun hm => ?_⟩
  · rcases g.src k with ⟨_, eA⟩ | ⟨_, _, _, _, eA⟩ | ⟨⟨x, hx, hek, eA⟩, _, _⟩ | ⟨_, _, _, eA⟩
    · rw [eA] at e; cases e
    · rw [eA] at e; cases e
    · rw [eA] at e
      injection e with e
      subst e
      obtain ⟨_, _, _, h4, h5, h6⟩ := g.spk x hx
      rw [← hek]
      exact ⟨h4, h5, h6⟩
    · rw [eA] at e
      injection e with e
      subst e
      exact ⟨by decide, List.nodup_nil, fun x hx => by cases hx⟩
  · rcases g.src k with ⟨_, eA⟩ | ⟨x, hx, hek, _, eA⟩ | ⟨⟨x, hx, hek, eA⟩, _, _⟩ | ⟨_, _, _, eA⟩
    · rw [eA] at e; cases e
    · rw [eA] at e
      injection e with e
      subst e
      exact (g.fik x hx).2.2
    · rw [eA] at e; cases e
    · rw [eA] at e; cases e
  · rcases g.src k with ⟨hc, _⟩ | ⟨x, hx, hek, _, _⟩ | ⟨⟨x, hx, hek, _⟩, _, _⟩ | ⟨_, _, _, eA⟩
    · exact (g.cok k hc).1
    · rw [← hek]; exact (g.fik x hx).1
    · rw [← hek]; exact (g.spk x hx).1
    · exact absurd eA hk
  · have := (fines_perm ndf (fun e he => (g.fik e he).1) (isFi_iff g) hm).length_eq
    rw [List.length_map] at this
    rw [← this]; exact g.five hm
theorem hasS_setOf {per c x : Int} {l : List Int} (hp : 1 ≤ per) (hl : ∀ y ∈ l, 0 ≤ y ∧ y / per = x) (hc : 0 ≤ c) (hx : c / per = x) : hasS per c (.fi (setOf per l)) = decide (c ∈ l) := by
  have key : ∀ y ∈ l, (y % per).toNat = (c % per).toNat → y = c := fun y hy e => by
    have m0 := Int.emod_nonneg y (show per ≠ 0 by omega)
    have m1 := Int.emod_nonneg c (show per ≠ 0 by omega)
    have d0 := Int.mul_ediv_add_emod y per
    have d1 := Int.mul_ediv_add_emod c per
    rw [(hl y hy).2] at d0
    rw [hx] at d1
    omega
  show setOf per l (c % per).toNat = _
  unfold setOf
  refine decide_eq_decide.2 ⟨fun ⟨y, hy, e⟩ => key y hy e ▸ hy, fun h => ⟨c, h, rfl⟩⟩
theorem hasA_iff {n per hm c : Int} {A : Abs} : hasA n per A hm c = true ↔ (0 ≤ hm ∧ hm < n ∧ 0 ≤ c ∧ c < n * per) ∧ hasS per c (A (hm, c / per)) = true := by
  unfold hasA
  split
  · rename_i h; exact ⟨fun e => ⟨h, e⟩, fun e => e.2⟩
  · rename_i h; exact ⟨fun e => (by cases e), fun e => absurd e.1 h⟩
theorem coarsenA_or {n per hm : Int} {A : Abs} (k : Int × Int) : coarsenA n per A hm k = A k ∨ coarsenA n per A hm k = .co := by
  unfold coarsenA
  cases finesA n A hm with
  | nil => exact .inl rfl
  | cons x L =>
    dsimp only
    split
    · exact .inl rfl
    · unfold updA
      split
      · exact .inr rfl
      · exact .inl rfl
/-- Add: what is had behind it. -/
theorem add_has {n per hm c : Int} {A : Abs} (C : Cfg n per) (h : AOk n per A) (hr : 0 ≤ hm ∧ hm < n ∧ 0 ≤ c ∧ c < n * per) (hne : hm ≠ c / per) :
    (addA n per A hm c).2.1 = 0 ∧ hasA n per (addA n per A hm c).2.2 hm c = true ∧ (∀ h' c', hasA n per A h' c' = true → hasA n per (addA n per A hm c).2.2 h' c' = true) ∧
    (∀ h' c', hasA n per (addA n per A hm c).2.2 h' c' = true → hasA n per A h' c' = true ∨ (h' = hm ∧ c' = c) ∨ (addA n per A hm c).2.2 (h', c' / per) = .co) ∧ (∀ k, A k = .co → (addA n per A hm c).2.2 k = .co) := by
  have p1 := C.p1
  unfold addA
  rw [if_pos hr, if_neg hne]
  obtain ⟨k, ek⟩ : ∃ k, k = (hm, c / per) := ⟨_, rfl⟩
  rw [← ek]
  cases hA : A k with
  | co =>
    dsimp only
    refine ⟨rfl, ?_, fun _ _ e => e, fun _ _ e => .inl e, fun _ e => e⟩
    rw [hasA_iff, ← ek, hA]; exact ⟨hr, rfl⟩
  | fi S =>
    dsimp only
    refine ⟨rfl, ?_, fun h' c' e => ?_, fun h' c' e => ?_, fun k' e => ?_⟩
    · rw [hasA_iff, ← ek, updA_same]
      refine ⟨hr, ?_⟩
      show bput S _ _ = true
      unfold bput
      simp
    · rw [hasA_iff] at e ⊢
      refine ⟨e.1, ?_⟩
      by_cases ck : (h', c' / per) = k
      · rw [ck, updA_same]
        have e2 := e.2
        rw [ck, hA] at e2
        show bput S _ _ = true
        have e2 : S (c' % per).toNat = true := e2
        unfold bput
        rw [e2]; simp
      · rw [updA_ne ck]; exact e.2
    · rw [hasA_iff] at e
      by_cases ck : (h', c' / per) = k
      · rw [ck, updA_same] at e
        have e2 : bput S (c % per).toNat (c' % per).toNat = true := e.2
        unfold bput at e2
        simp only [Bool.or_eq_true, decide_eq_true_eq] at e2
        rcases e2 with e2 | e2
        · refine .inr (.inl ?_)
          have ck' := ck
          rw [ek] at ck'
          injection ck' with k1 k2
          have m0 := Int.emod_nonneg c' (show per ≠ 0 by omega)
          have m1 := Int.emod_nonneg c (show per ≠ 0 by omega)
          have d0 := Int.mul_ediv_add_emod c' per
          have d1 := Int.mul_ediv_add_emod c per
          rw [k2] at d0
          exact ⟨k1, by omega⟩
        · refine .inl ?_
          rw [hasA_iff, ck, hA]
          exact ⟨e.1, e2⟩
      · rw [updA_ne ck] at e
        refine .inl ?_
        rw [hasA_iff]; exact e
    · rw [updA_ne (fun e' => by rw [e', hA] at e; cases e)]; exact e
  | sp l =>
    have hl := (h.sp k l hA).2.2
    dsimp only
    by_cases c1 : c ∈ l
    · rw [if_pos c1]
      dsimp only
      refine ⟨rfl, ?_, fun _ _ e => e, fun _ _ e => .inl e, fun _ e => e⟩
      rw [hasA_iff, ← ek, hA]
      exact ⟨hr, decide_eq_true c1⟩
    rw [if_neg c1]
    by_cases c2 : l.length < 4
    · rw [if_pos c2]
      dsimp only
      refine ⟨rfl, ?_, fun h' c' e => ?_, fun h' c' e => ?_, fun k' e => ?_⟩
      · rw [hasA_iff, ← ek, updA_same]
        exact ⟨hr, decide_eq_true (by simp)⟩
      · rw [hasA_iff] at e ⊢
        refine ⟨e.1, ?_⟩
        by_cases ck : (h', c' / per) = k
        · rw [ck, updA_same]
          have e2 := e.2
          rw [ck, hA] at e2
          exact decide_eq_true (List.mem_append_left _ (of_decide_eq_true e2))
        · rw [updA_ne ck]; exact e.2
      · rw [hasA_iff] at e
        by_cases ck : (h', c' / per) = k
        · rw [ck, updA_same] at e
          rcases List.mem_append.1 (of_decide_eq_true e.2) with e2 | e2
          · refine .inl ?_
            rw [hasA_iff, ck, hA]
            exact ⟨e.1, decide_eq_true e2⟩
          · refine .inr (.inl ?_)
            rw [ek] at ck
            injection ck with k1 k2
            exact ⟨k1, List.mem_singleton.1 e2⟩
        · rw [updA_ne ck] at e
          refine .inl ?_
          rw [hasA_iff]; exact e
      · rw [updA_ne (fun e' => by rw [e', hA] at e; cases e)]; exact e
    · rw [if_neg c2]
      dsimp only
      obtain ⟨X, eX⟩ : ∃ X, X = updA A k (.fi (setOf per (l ++ [c]))) := ⟨_, rfl⟩
      rw [← eX]
      have hlc : ∀ x ∈ l ++ [c], 0 ≤ x ∧ x / per = k.2 := fun x hx => by
        rcases List.mem_append.1 hx with hx | hx
        · exact ⟨(hl x hx).1, (hl x hx).2.2⟩
        · have := List.mem_singleton.1 hx
          subst this
          exact ⟨hr.2.2.1, by rw [ek]⟩
      have hX : ∀ h' c', (h', c' / per) = k → 0 ≤ c' → hasS per c' (X k) = decide (c' ∈ l ++ [c]) := fun h' c' e1 e2 => by
        rw [eX, updA_same]
        exact hasS_setOf p1 hlc e2 (by rw [← e1])
      have up : ∀ h' c', hasA n per X h' c' = true → hasA n per (coarsenA n per X hm) h' c' = true := fun h' c' e => by
        rw [hasA_iff] at e ⊢
        refine ⟨e.1, ?_⟩
        rcases coarsenA_or (n := n) (per := per) (hm := hm) (A := X) (h', c' / per) with e1 | e1
        · rw [e1]; exact e.2
        · rw [e1]; rfl
      refine ⟨rfl, up _ _ ?_, fun h' c' e => up _ _ ?_, fun h' c' e => ?_, fun k' e => ?_⟩
      · rw [hasA_iff, ← ek, hX hm c ek.symm hr.2.2.1]
        exact ⟨hr, decide_eq_true (by simp)⟩
      · rw [hasA_iff] at e ⊢
        refine ⟨e.1, ?_⟩
        by_cases ck : (h', c' / per) = k
        · rw [ck, hX h' c' ck e.1.2.2.1]
          have e2 := e.2
          rw [ck, hA] at e2
          exact decide_eq_true (List.mem_append_left _ (of_decide_eq_true e2))
        · rw [eX, updA_ne ck]; exact e.2
      · rcases coarsenA_or (n := n) (per := per) (hm := hm) (A := X) (h', c' / per) with e1 | e1
        · rw [hasA_iff] at e
          rw [e1] at e
          by_cases ck : (h', c' / per) = k
          · rw [ck, hX h' c' ck e.1.2.2.1] at e
            rcases List.mem_append.1 (of_decide_eq_true e.2) with e2 | e2
            · refine .inl ?_
              rw [hasA_iff, ck, hA]
              exact ⟨e.1, decide_eq_true e2⟩
            · refine .inr (.inl ?_)
              rw [ek] at ck
              injection ck with k1 k2
              exact ⟨k1, List.mem_singleton.1 e2⟩
          · rw [eX, updA_ne ck] at e
            refine .inl ?_
            rw [hasA_iff]; exact e
        · exact .inr (.inr e1)
      · rcases coarsenA_or (n := n) (per := per) (hm := hm) (A := X) k' with e1 | e1
        · rw [e1, eX, updA_ne (fun e' => by rw [e', hA] at e; cases e)]; exact e
        · exact e1
theorem clear_has {n per r : Int} {A : Abs} (hr : 0 ≤ r ∧ r < n) (h c : Int) : hasA n per (clearA n A r) h c = (hasA n per A h c && !decide (h = r)) := by
  unfold clearA inR
  rw [decide_eq_true hr, if_pos rfl]
  unfold hasA
  split
  · unfold dropA
    by_cases e : h = r
    · rw [if_pos (decide_eq_true e), decide_eq_true e]
      show decide (c ∈ ([] : List Int)) = _
      simp
    · rw [if_neg (by simpa using e), decide_eq_false e]; simp
  · simp
theorem scrub_has {n per r : Int} {A : Abs} (hr : 0 ≤ r ∧ r < n) (h c : Int) : hasA n per (scrubA n A r) h c = (hasA n per A h c && !decide (c / per = r)) := by
  unfold scrubA inR
  rw [decide_eq_true hr, if_pos rfl]
  unfold hasA
  split
  · unfold dropA
    by_cases e : c / per = r
    · rw [if_pos (decide_eq_true e), decide_eq_true e]
      show decide (c ∈ ([] : List Int)) = _
      simp
    · rw [if_neg (by simpa using e), decide_eq_false e]; simp
  · simp
/-- A home's own cards are never had. -/
theorem own_has {n per h c : Int} {A : Abs} (hA : AOk n per A) (e : hasA n per A h c = true) : c / per ≠ h ∧ A (h, c / per) ≠ .sp [] := by
  have h1 : A (h, c / per) ≠ .sp [] := fun e1 => by
    rw [hasA_iff, e1] at e
    have := e.2
    cases this
  have := hA.ok _ h1
  unfold okK at this
  exact ⟨fun e => this.2.2.2.2 e.symm, h1⟩
end Go.Proofs.YtfokdnmidfmddaaDoor
