/- Layer 11 (remset): a source becomes fine, where few are. -/
import Derived.Test.YtdhbpklmkibmbaaRem3
namespace Go.Proofs.Ytdhbpklmkibmbaa
open Go.Vc

def setOf (per : Int) (l : List Int) : Nat → Bool := fun j => decide (∃ c ∈ l, (c % per).toNat = j)
def delSp (sp : List SpE) (k : Int × Int) : List SpE := sp.filter fun e => !decide (e.k = k)
theorem del_spM (sp : List SpE) (k : Int × Int) : spM (delSp sp k) = delM (spM sp) k := by
  unfold spM delSp delM
  rw [List.filter_map]; rfl
theorem put_fiM {fi : List FiE} {e : FiE} (h : idxM (fiM fi) e.k = none) : fiM (fi ++ [e]) = putM (fiM fi) e.k (.pointer (some ⟨e.f, 0, none⟩)) := by
  unfold putM; rw [h]; simp [fiM]
theorem bits_ne {w : World} {f r : Nat} {n : Int} {S : Nat → Bool} (h : IsBits w f r n S) : f ≠ r := by
  obtain ⟨ws, hw, _⟩ := h
  intro e
  have h1 := hw.tab
  have h2 := hw.row
  rw [e] at h1
  unfold Blk at h1 h2
  rw [h1] at h2
  injection h2 with h2
  injection h2 with _ h2 _
  cases h2
theorem bits_lt {w : World} {f r : Nat} {n : Int} {S : Nat → Bool} (h : IsBits w f r n S) : f < w.heap.size ∧ r < w.heap.size := by
  obtain ⟨ws, hw, _⟩ := h
  exact ⟨hw.tab.lt, hw.row.lt⟩
/-- A sparse source has become a fine one. -/
theorem SetsG.refine {w w' : World} {b m1 m2 m3 : Nat} {n per : Int} {sp : List SpE} {fi : List FiE} {co : List (Int × Int)} (h : SetsG w b m1 m2 m3 n per sp fi co) {e : FiE} {F : Nat → Prop} (f : Fr F w w')
    (hF : ∀ x, F x → x = m1 ∨ x = m2 ∨ (∃ o, spGet sp e.k = some o ∧ x = o.g)) (hM1 : MapG pairV w' m1 (delM (spM sp) e.k)) (hi : idxM (fiM fi) e.k = none) (hM2 : MapG pairV w' m2 (putM (fiM fi) e.k (.pointer (some ⟨e.f, 0, none⟩))))
    (hS : IsBits w' e.f e.r per e.S) (hf : w.heap.size ≤ e.f) (hr : w.heap.size ≤ e.r) : SetsG w' b m1 m2 m3 n per (delSp sp e.k) (fi ++ [e]) co := by
  have hrs := h.rest_lt
  have hne1 : ∀ x ∈ restB b m1 m2 m3 fi, F x → x = m1 ∨ x = m2 := by
    intro x hx hf
    rcases hF x hf with e1 | e1 | ⟨o, ho, e1⟩
    · exact .inl e1
    · exact .inr e1
    · exact absurd (by rw [← e1]; exact hx) (h.dj o (spGet_some ho).1)
  have hnd := h.rs
  unfold restB at hnd
  simp only [List.nodup_cons, List.mem_cons, not_or] at hnd
  obtain ⟨⟨n1, n2, n3, n4⟩, ⟨n5, n6, n7⟩, ⟨n8, n9⟩, n10, n11⟩ := hnd
  have hfi : ∀ y ∈ fi, (y.f ≠ m1 ∧ y.f ≠ m2) ∧ (y.r ≠ m1 ∧ y.r ≠ m2) ∧ y.f ∈ restB b m1 m2 m3 fi ∧ y.r ∈ restB b m1 m2 m3 fi := by
    intro y hy
    refine ⟨⟨fun e => n7 (List.mem_flatMap.2 ⟨y, hy, by simp [e]⟩), fun e => n9 (List.mem_flatMap.2 ⟨y, hy, by simp [e]⟩)⟩, ⟨fun e => n7 (List.mem_flatMap.2 ⟨y, hy, by simp [e]⟩), fun e => n9 (List.mem_flatMap.2 ⟨y, hy, by simp [e]⟩)⟩, ?_, ?_⟩
    · unfold restB; simp only [List.mem_cons, List.mem_flatMap]; exact .inr (.inr (.inr (.inr ⟨y, hy, by simp⟩)))
    · unfold restB; simp only [List.mem_cons, List.mem_flatMap]; exact .inr (.inr (.inr (.inr ⟨y, hy, by simp⟩)))
  have mr : ∀ x ∈ [b, m1, m2, m3], x ∈ restB b m1 m2 m3 fi := fun x hx => by
    unfold restB
    simp at hx ⊢
    rcases hx with h | h | h | h <;> simp [h]
  have rest' : restB b m1 m2 m3 (fi ++ [e]) = restB b m1 m2 m3 fi ++ [e.f, e.r] := by simp [restB]
  have nb : ∀ x ∈ restB b m1 m2 m3 fi, x ≠ m1 → x ≠ m2 → ¬ F x := fun x hx a1 a2 hf => by
    rcases hne1 x hx hf with e1 | e1
    · exact a1 e1
    · exact a2 e1
  refine ⟨h.tab.keep f (nb b (mr _ (by simp)) n1 n2), by rw [del_spM]; exact hM1, by rw [put_fiM hi]; exact hM2, h.map3.keep f (nb m3 (mr _ (by simp)) (fun e => n6 e.symm) (fun e => n8 e.symm)), fun x hx => ?_, fun y hy => ?_, ?_, ?_, fun x hx => ?_⟩
  · obtain ⟨hx1, hx2⟩ := List.mem_filter.1 hx
    have hx2 : x.k ≠ e.k := by simpa using hx2
    refine own_keepV (h.rows x hx1) f (fun k hk hf => ?_)
    injection hk with hk
    have hk : x.g = k := hk
    rcases hF k hf with e1 | e1 | ⟨o, ho, e1⟩
    · exact h.dj x hx1 (by rw [hk, e1]; exact mr _ (by simp))
    · exact h.dj x hx1 (by rw [hk, e1]; exact mr _ (by simp))
    · obtain ⟨ho1, ho2, _⟩ := spGet_some ho
      obtain ⟨i, hi', ei⟩ := List.getElem_of_mem hx1
      obtain ⟨j, hj', ej⟩ := List.getElem_of_mem ho1
      have hp := List.pairwise_iff_getElem.1 h.gs
      have hij : i ≠ j := fun c => hx2 (by subst c; rw [← ei, ej, ho2])
      rcases Nat.lt_or_gt_of_ne hij with c | c
      · exact hp i j (by simpa using hi') (by simpa using hj') c (by simp [ei, ej, hk, e1])
      · exact hp j i (by simpa using hj') (by simpa using hi') c (by simp [ei, ej, hk, e1])
  · rcases List.mem_append.1 hy with hy | hy
    · obtain ⟨a1, a2, a3, a4⟩ := hfi y hy
      exact (h.sets y hy).keep f (nb _ a3 a1.1 a1.2) (nb _ a4 a2.1 a2.2)
    · have : y = e := by simpa using hy
      rw [this]; exact hS
  · exact h.gs.sublist (List.Sublist.map _ List.filter_sublist)
  · rw [rest']
    refine List.nodup_append.2 ⟨h.rs, by simp [bits_ne hS], fun a ha b' hb' e' => ?_⟩
    have := hrs a ha
    simp at hb'
    omega
  · have hx1 := (List.mem_filter.1 hx).1
    rw [rest', List.mem_append]
    rintro (h1 | h1)
    · exact h.dj x hx1 h1
    · have := spV_lt (h.rows x hx1)
      simp at h1
      omega
theorem setOf_snoc (per : Int) (l : List Int) {i : Nat} (hi : i < l.length) : setOf per (l.take (i + 1)) = bput (setOf per (l.take i)) (l[i] % per).toNat := by
  funext j
  unfold setOf bput
  rw [List.take_add_one, List.getElem?_eq_getElem hi]
  by_cases e : j = (l[i] % per).toNat
  · rw [decide_eq_true e, Bool.true_or, decide_eq_true_iff]
    exact ⟨l[i], List.mem_append_right _ (List.mem_singleton.2 rfl), e.symm⟩
  · rw [decide_eq_false e, Bool.false_or, decide_eq_decide]
    constructor
    · rintro ⟨c, hc, ec⟩
      rcases List.mem_append.1 hc with h | h
      · exact ⟨c, h, ec⟩
      · have : c = l[i] := by simpa using h
        exact absurd (by rw [← ec, this]) e
    · rintro ⟨c, hc, ec⟩
      exact ⟨c, List.mem_append_left _ hc, ec⟩
def pairsL (l : List (Int × Int)) : List Value := l.flatMap pairL
theorem pairsL_app (l : List (Int × Int)) (x : Int × Int) : pairsL (l ++ [x]) = pairsL l ++ pairL x := by simp [pairsL]
/-- How many of a home's sources are in a list. -/
def ofHome (hm : Int) (l : List ((Int × Int) × Value)) : List ((Int × Int) × Value) := l.filter fun x => decide (x.1.1 = hm)
theorem ofHome_del {hm : Int} {l : List ((Int × Int) × Value)} {x : (Int × Int) × Value} (nd : (l.map (·.1)).Nodup) (hx : x ∈ l) : (ofHome hm l).length = (ofHome hm (delM l x.1)).length + (if x.1.1 = hm then 1 else 0) := by
  induction l with
  | nil => cases hx
  | cons y l ih =>
    rw [List.map_cons, List.nodup_cons] at nd
    by_cases e : y.1 = x.1
    · have hd : delM (y :: l) x.1 = l := by
        unfold delM
        rw [List.filter_cons, if_neg (by simp [e]), List.filter_eq_self]
        intro z hz
        simp only [Bool.not_eq_true', decide_eq_false_iff_not]
        intro e2
        exact nd.1 (List.mem_map.2 ⟨z, hz, e2.trans e.symm⟩)
      rw [hd]
      unfold ofHome
      rw [List.filter_cons, e]
      by_cases c : x.1.1 = hm
      · rw [if_pos (by simp [c]), if_pos c]; simp
      · rw [if_neg (by simp [c]), if_neg c]; simp
    · have hx' : x ∈ l := by
        rcases List.mem_cons.1 hx with h | h
        · exact absurd (by rw [h]) e
        · exact h
      have hd : delM (y :: l) x.1 = y :: delM l x.1 := by
        unfold delM
        rw [List.filter_cons, if_pos (by simp [e])]
      have h1 := ih nd.2 hx'
      rw [hd]
      unfold ofHome at h1 ⊢
      rw [List.filter_cons, List.filter_cons]
      by_cases c : y.1.1 = hm
      · rw [if_pos (by simp [c]), if_pos (by simp [c]), List.length_cons, List.length_cons, h1]; omega
      · rw [if_neg (by simp [c]), if_neg (by simp [c])]; exact h1
end Go.Proofs.Ytdhbpklmkibmbaa
