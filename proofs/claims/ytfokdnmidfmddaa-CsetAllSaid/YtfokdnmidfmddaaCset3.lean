/- Layer 18 (cset): the sorts, and Choose. -/
import Derived.Test.YtfokdnmidfmddaaCset2
import Derived.Test.YtfokdnmidfmddaaSortLay
namespace Go.Proofs.Ytfokdnmidfmddaa
open Go.Vc Go.Sort Go.Shelf

theorem cmpI_neg {x y : Int} : cmpI x y < 0 ↔ x < y := by
  unfold cmpI
  split
  · omega
  · split <;> omega
theorem cmpI_zero {x y : Int} : cmpI x y = 0 ↔ x = y := by
  unfold cmpI
  split
  · omega
  · split <;> omega
theorem cmpK_neg {a b : Int × Int} : cmpK a b < 0 ↔ liveK a < liveK b ∨ (liveK a = liveK b ∧ a.1 < b.1) := by
  unfold cmpK
  by_cases h : cmpI (liveK a) (liveK b) = 0
  · rw [if_pos h, cmpI_neg]
    rw [cmpI_zero] at h
    constructor
    · intro e; exact .inr ⟨h, e⟩
    · rintro (e | ⟨_, e⟩)
      · omega
      · exact e
  · rw [if_neg h, cmpI_neg]
    rw [cmpI_zero] at h
    constructor
    · intro e; exact .inl e
    · rintro (e | ⟨e, _⟩)
      · exact e
      · exact absurd e h
theorem cmpK_swo : SWO (ltOf cmpK) where
  irrefl x := by unfold ltOf; rw [decide_eq_false]; rw [cmpK_neg]; omega
  trans x y z h1 h2 := by
    unfold ltOf at *
    rw [decide_eq_true_iff, cmpK_neg] at *
    omega
  ntrans x y z h1 h2 := by
    unfold ltOf at *
    rw [decide_eq_false_iff_not, cmpK_neg] at *
    omega
theorem cmpLays18 (blk off size : Nat) (w : World) : CmpLays Pr f_cset_Choose_1 #[] candL 2 cmpK blk off size w := fun _ _ _ _ x y =>
  (CallC_elim (Choose_1_spec x y _)).mono fun _ _ ⟨v, he, hv, hx⟩ => ⟨by rw [he, hv], hx⟩
theorem candsL_flat (l : List (Int × Int)) : (flatK candL 2 l.toArray).toList = candsL l := flatK_list candL 2 (fun _ => rfl) l.toArray
/-- In order. -/
def Sorted (l : List (Int × Int)) : Prop := ∀ (i j : Nat) (a b : Int × Int), i < j → l[i]? = some a → l[j]? = some b → ¬ cmpK b a < 0
theorem SortFunc_spec {base : Nat} (v : Value) (l : List (Int × Int)) (w : World) (own : OwnC w base v l) (hl : l.length ≤ 1000000) :
    CallC Pr f_slices_SortFunc___cset_Candidate_cset_Candidate_ [v, .func (.func f_cset_Choose_1) #[] #[]] w
      (fun r w' => r = .tuple #[] ∧ ∃ l', l'.Perm l ∧ Sorted l' ∧ OwnC w' base v l' ∧ Fr (fun k => v.ownBlock = some k) w w') := by
  rcases own_cases own with ⟨rfl, h0, _⟩ | ⟨g, cap, cur, rfl, hbg, hb, ht, hn⟩
  · have : l = [] := List.eq_nil_of_length_eq_zero h0
    subst this
    refine CallC_mk ((AnyF.slices_SortFunc_none sortK_cset_Candidate none 0 (.func (.func f_cset_Choose_1) #[] #[]) w).mono fun e w' ⟨he, hw⟩ => ?_)
    subst hw
    exact ⟨_, he, rfl, [], List.Perm.refl _, fun i j a b _ h => (by cases h), own, Fr.refl _ _⟩
  · have hcl : l.length * 2 ≤ cur.length := by
      have := congrArg List.length ht
      rw [candsL_len, List.length_take] at this
      omega
    have hfl : (flatK candL 2 l.toArray).size = l.length * 2 := by simp
    have hH : HoldsK candL 2 w g 0 l.toArray := by
      refine holds_of id hb ?_
      rw [hfl, ht, candsL_flat, List.map_id]
    have hc := AnyQ.slices_SortFunc sortK_cset_Candidate 2 sortK_cset_Candidate_agg sortK_cset_Candidate_size candL (fun _ => rfl) (fun x v hv => by simp [candL] at hv; rcases hv with rfl | rfl <;> rfl) cmpK cmpK_swo f_cset_Choose_1 #[] g 0 cap l.toArray w (enters_of fun_cset_Choose_1 (by kernel_rfl) rfl) (cmpLays18 _ _ _ _) hH hb.lt (by simp; omega)
    refine CallC_mk (Calls.mono hc fun e w' ⟨he, d', n, os, hp, hs, hw⟩ => ⟨_, he, rfl, d'.toList, ?_, ?_, ?_, ?_⟩)
    · have h1 := hp.2.2
      have h2 : d'.size = l.length := by have := hp.1; simpa using this
      rw [Array.toList_extract, Array.toList_extract] at h1
      have h3 : List.take l.length d'.toList = d'.toList := List.take_of_length_le (by simp; omega)
      simpa [List.extract_eq_take_drop, h2, h3] using h1
    · intro i j a b hij hi hj
      have h2 : d'.size = l.length := by have := hp.1; simpa using this
      have hjl : j < d'.size := by have := (List.getElem?_eq_some_iff.1 hj).1; simpa using this
      have := hs i j (Nat.zero_le _) hij (by simpa [h2] using hjl)
      rw [getElem!_pos d' j hjl, getElem!_pos d' i (by omega)] at this
      rw [Array.getElem?_toList, Array.getElem?_eq_getElem (by omega)] at hi
      rw [Array.getElem?_toList, Array.getElem?_eq_getElem hjl] at hj
      injection hi with hi
      injection hj with hj
      rw [hi, hj] at this
      unfold ltOf at this
      simpa using this
    · have h2 : d'.toList.length = l.length := by have := hp.1; simpa using this
      have h3 : (flatK candL 2 d').size = l.length * 2 := by simp; rw [← h2]; simp
      have hB : Blk w' g t_cset_Candidate (candsL d'.toList ++ cur.drop (l.length * 2)) := by
        have := putRow_blk id (d := flatK candL 2 d') (n := n) (os := os) hb (by rw [h3]; exact hcl)
        rw [h3, flatK_list candL 2 (fun _ => rfl) d', List.map_id] at this
        rw [hw]; exact this
      unfold OwnC
      rw [h2]
      refine own_over own hb hB ?_ (Nat.le_refl _) ?_
      · rw [List.length_append, candsL_len, h2, List.length_drop]; omega
      · rw [List.take_append_of_le_length (by rw [candsL_len, h2]; exact Nat.le_refl _), List.take_of_length_le (by rw [candsL_len, h2]; exact Nat.le_refl _)]
    · rw [hw]
      exact (putRow_fr id).weak (fun k _ e => by rw [e]; rfl)
theorem Sort_spec {base : Nat} (v : Value) (l : List Int) (w : World) (own : Own w base v l) (hl : l.length ≤ 1000000) :
    CallC Pr f_slices_Sort___int_int_ [v] w (fun r w' => r = .tuple #[] ∧ Own w' base v (l.mergeSort fun x y => decide (x ≤ y)) ∧ Fr (fun k => v.ownBlock = some k) w w') := by
  rcases own_cases own with ⟨rfl, h0, _⟩ | ⟨g, cap, cur, rfl, hbg, hb, ht, hn⟩
  · have : l = [] := List.eq_nil_of_length_eq_zero h0
    subst this
    refine CallC_mk ((Any.slices_Sort_int_none sortI none 0 w).mono fun e w' ⟨he, hw⟩ => ?_)
    subst hw
    exact ⟨_, he, rfl, by simpa using own, Fr.refl _ _⟩
  · have hcl : l.length ≤ cur.length := by
      have := congrArg List.length ht
      rw [ints_len, List.length_take] at this
      omega
    have hH : Holds (Value.int .i64) w g 0 l.toArray := by
      refine holds_of _ hb ?_
      have e : (List.map (Value.int .i64) l) = ints l := rfl
      simpa [e] using ht
    have hc := Any.slices_Sort_int sortI g 0 cap l w hH hb.lt (by omega)
    refine CallC_mk (Calls.mono hc fun e w' ⟨he, n, os, hw⟩ => ⟨_, he, rfl, ?_, ?_⟩)
    · have h2 : (l.mergeSort fun x y => decide (x ≤ y)).length = l.length := List.length_mergeSort _
      have hB : Blk w' g t_int (ints (l.mergeSort fun x y => decide (x ≤ y)) ++ cur.drop l.length) := by
        have := putRow_blk (Value.int .i64) (d := (l.mergeSort fun x y => decide (x ≤ y)).toArray) (n := n) (os := os) hb (by simpa [h2] using hcl)
        rw [List.size_toArray, h2] at this
        rw [hw]; exact this
      unfold Own
      rw [h2]
      refine own_over own hb hB ?_ (Nat.le_refl _) ?_
      · rw [List.length_append, ints_len, h2, List.length_drop]; omega
      · rw [List.take_append_of_le_length (by rw [ints_len, h2]; omega), List.take_of_length_le (by rw [ints_len, h2]; omega)]
    · rw [hw]
      exact (putRow_fr _).weak (fun k _ e => by rw [e]; rfl)
end Go.Proofs.Ytfokdnmidfmddaa
