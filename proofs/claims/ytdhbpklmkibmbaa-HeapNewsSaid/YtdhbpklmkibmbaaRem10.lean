/- Layer 11 (remset): a source becomes fine, and one of too many coarse. -/
import Derived.Test.YtdhbpklmkibmbaaRem9
namespace Go.Proofs.Ytdhbpklmkibmbaa
open Go.Vc

/-- The fine sources of a home. -/
def homeK (hm : Int) (fi : List FiE) : List (Int × Int) := fi.flatMap fun e => if e.k.1 = hm then [e.k] else []
theorem homeK_mem {hm : Int} {fi : List FiE} {z : Int × Int} (h : z ∈ homeK hm fi) : z ∈ fi.map (·.k) := by
  unfold homeK at h
  obtain ⟨e, he, hz⟩ := List.mem_flatMap.1 h
  split at hz
  · exact List.mem_map.2 ⟨e, he, (List.mem_singleton.1 hz).symm⟩
  · cases hz
theorem flat_delK {α κ β : Type} [DecidableEq κ] (key : α → κ) {F : α → List β} {l : List α} {x : α} (nd : (l.map key).Nodup) (hx : x ∈ l) : (l.flatMap F).Perm (F x ++ (l.filter fun y => !decide (key y = key x)).flatMap F) := by
  induction l with
  | nil => cases hx
  | cons y l ih =>
    rw [List.map_cons, List.nodup_cons] at nd
    rcases List.mem_cons.1 hx with e | h
    · subst e
      have : (x :: l).filter (fun y => !decide (key y = key x)) = l := by
        rw [List.filter_cons, if_neg (by simp), List.filter_eq_self]
        intro z hz
        simp only [Bool.not_eq_true', decide_eq_false_iff_not]
        intro e2
        exact nd.1 (List.mem_map.2 ⟨z, hz, e2⟩)
      rw [this, List.flatMap_cons]
    · have hne : key y ≠ key x := fun e => nd.1 (List.mem_map.2 ⟨x, h, e.symm⟩)
      rw [List.filter_cons, if_pos (by simp [hne]), List.flatMap_cons, List.flatMap_cons]
      refine ((ih nd.2 h).append_left (F y)).trans ?_
      rw [← List.append_assoc, ← List.append_assoc]
      exact List.perm_append_comm.append_right _
def toB (l : List (Int × Int)) (h : ∀ z ∈ l, 0 ≤ z.2 ∧ z.2 ≤ 65536) : List BP := l.attach.map fun z => ⟨z.1, h z.1 z.2⟩
theorem toB_fst (l : List (Int × Int)) (h : ∀ z ∈ l, 0 ≤ z.2 ∧ z.2 ≤ 65536) : (toB l h).map (·.1) = l := by
  unfold toB
  rw [List.map_map]
  exact List.attach_map_subtype_val l
theorem sub_flat {α β : Type} (f : α → List β) {l1 l2 : List α} (h : l1.Sublist l2) : (l1.flatMap f).Sublist (l2.flatMap f) := by
  induction h with
  | slnil => exact List.Sublist.refl _
  | cons a _ ih => rw [List.flatMap_cons]; exact ih.trans (List.sublist_append_right _ _)
  | cons_cons a _ ih => rw [List.flatMap_cons, List.flatMap_cons]; exact (List.Sublist.refl _).append ih
/-- Fine sources go, or become coarse. -/
theorem SetsG.less {w w' : World} {b m1 m2 m3 : Nat} {n per : Int} {sp sp' : List SpE} {fi fi' : List FiE} {co co' : List (Int × Int)} (h : SetsG w b m1 m2 m3 n per sp fi co) (hs : sp'.Sublist sp) (hfi : fi'.Sublist fi) {F : Nat → Prop} (f : Fr F w w')
    (hF : ∀ x, F x → x = m1 ∨ x = m2 ∨ x = m3) (hM1 : MapG pairV w' m1 (spM sp')) (hM2 : MapG pairV w' m2 (fiM fi')) (hM3 : MapG pairV w' m3 (coM co')) : SetsG w' b m1 m2 m3 n per sp' fi' co' := by
  have hnd := h.rs
  have hsubR : (restB b m1 m2 m3 fi').Sublist (restB b m1 m2 m3 fi) := by
    unfold restB
    exact ((((sub_flat _ hfi).cons_cons _).cons_cons _).cons_cons _).cons_cons _
  have mr : ∀ x ∈ [m1, m2, m3], x ∈ restB b m1 m2 m3 fi := fun x hx => by
    unfold restB
    simp at hx ⊢
    rcases hx with h | h | h <;> simp [h]
  unfold restB at hnd
  simp only [List.nodup_cons, List.mem_cons, not_or] at hnd
  obtain ⟨⟨n1, n2, n3, n4⟩, ⟨n5, n6, n7⟩, ⟨n8, n9⟩, n10, n11⟩ := hnd
  have hset : ∀ e ∈ fi, ∀ x ∈ [e.f, e.r], ¬ F x := fun e he x hx hf => by
    have : x ∈ fi.flatMap (fun e => [e.f, e.r]) := List.mem_flatMap.2 ⟨e, he, hx⟩
    rcases hF x hf with e1 | e1 | e1
    · exact n7 (e1 ▸ this)
    · exact n9 (e1 ▸ this)
    · exact n10 (e1 ▸ this)
  refine ⟨h.tab.keep f (fun hf => ?_), hM1, hM2, hM3, fun e he => own_keepV (h.rows e (hs.subset he)) f (fun x hx hf => ?_), fun e he => (h.sets e (hfi.subset he)).keep f (hset e (hfi.subset he) e.f (by simp)) (hset e (hfi.subset he) e.r (by simp)), h.gs.sublist (hs.map _), h.rs.sublist hsubR, fun e he hm => h.dj e (hs.subset he) (hsubR.subset hm)⟩
  · rcases hF b hf with e1 | e1 | e1
    · exact n1 e1
    · exact n2 e1
    · exact n3 e1
  · injection hx with hx
    have hx : e.g = x := hx
    rcases hF x hf with e1 | e1 | e1
    · exact h.dj e (hs.subset he) (by rw [hx, e1]; exact mr _ (by simp))
    · exact h.dj e (hs.subset he) (by rw [hx, e1]; exact mr _ (by simp))
    · exact h.dj e (hs.subset he) (by rw [hx, e1]; exact mr _ (by simp))
end Go.Proofs.Ytdhbpklmkibmbaa
