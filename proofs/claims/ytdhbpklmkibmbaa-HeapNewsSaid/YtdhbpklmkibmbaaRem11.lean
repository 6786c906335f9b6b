/- Layer 11 (remset): Add in every case. -/
import Derived.Test.YtdhbpklmkibmbaaRem10
namespace Go.Proofs.Ytdhbpklmkibmbaa
open Go.Vc
def updF (fi : List FiE) (k : Int × Int) (j : Nat) : List FiE := fi.map fun e => if e.k = k then { e with S := bput e.S j } else e
theorem updF_fiM (fi : List FiE) (k : Int × Int) (j : Nat) : fiM (updF fi k j) = fiM fi := by
  unfold fiM updF
  rw [List.map_map]
  refine List.map_congr_left fun e _ => ?_
  simp only [Function.comp]
  split <;> rfl
theorem updF_rest (b m1 m2 m3 : Nat) (fi : List FiE) (k : Int × Int) (j : Nat) : restB b m1 m2 m3 (updF fi k j) = restB b m1 m2 m3 fi := by
  unfold restB updF
  rw [List.flatMap_map]
  congr 4
  congr 1
  funext e
  split <;> rfl
theorem flat_apart {y e : FiE} : ∀ fi : List FiE, (fi.flatMap fun e => [e.f, e.r]).Nodup → y ∈ fi → e ∈ fi → y ≠ e → y.f ≠ e.r ∧ y.r ≠ e.r := by
  intro fi
  induction fi with
  | nil => intro _ h; cases h
  | cons z fi ih =>
    intro nd hy he hne
    have nd : (z.f :: z.r :: fi.flatMap fun e => [e.f, e.r]).Nodup := nd
    simp only [List.nodup_cons, List.mem_cons, not_or] at nd
    obtain ⟨⟨n1, n2⟩, n3, n4⟩ := nd
    have inm : ∀ x ∈ fi, x.f ∈ (fi.flatMap fun e => [e.f, e.r]) ∧ x.r ∈ (fi.flatMap fun e => [e.f, e.r]) := fun x hx => ⟨List.mem_flatMap.2 ⟨x, hx, by simp⟩, List.mem_flatMap.2 ⟨x, hx, by simp⟩⟩
    rcases List.mem_cons.1 hy with hy1 | hy1
    · rcases List.mem_cons.1 he with he1 | he1
      · exact absurd (hy1.trans he1.symm) hne
      · rw [hy1]; exact ⟨fun c => n2 (c ▸ (inm e he1).2), fun c => n3 (c ▸ (inm e he1).2)⟩
    · rcases List.mem_cons.1 he with he1 | he1
      · rw [he1]; exact ⟨fun c => n3 (c ▸ (inm y hy1).1), fun c => n3 (c ▸ (inm y hy1).2)⟩
      · exact ih n4 hy1 he1 hne
theorem SetsG.putF {w w' : World} {b m1 m2 m3 : Nat} {n per : Int} {sp : List SpE} {fi : List FiE} {co : List (Int × Int)} (h : SetsG w b m1 m2 m3 n per sp fi co) {e : FiE} {j : Nat} (he : e ∈ fi) (f : Fr (· = e.r) w w') (hS : IsBits w' e.f e.r per (bput e.S j)) :
    SetsG w' b m1 m2 m3 n per sp (updF fi e.k j) co := by
  have nd : (fi.map (·.k)).Nodup := by rw [← fiM_keys]; exact h.map2.nodup
  have hnd := h.rs
  have hx : ∀ x ∈ [b, m1, m2, m3], x ≠ e.r := by
    intro x hx e1
    have hm : e.r ∈ fi.flatMap fun e => [e.f, e.r] := List.mem_flatMap.2 ⟨e, he, by simp⟩
    unfold restB at hnd
    simp only [List.nodup_cons, List.mem_cons, not_or] at hnd
    obtain ⟨⟨n1, n2, n3, n4⟩, ⟨n5, n6, n7⟩, ⟨n8, n9⟩, n10, n11⟩ := hnd
    simp at hx
    rcases hx with rfl | rfl | rfl | rfl
    · exact n4 (e1 ▸ hm)
    · exact n7 (e1 ▸ hm)
    · exact n9 (e1 ▸ hm)
    · exact n10 (e1 ▸ hm)
  have hdif : ∀ y ∈ fi, y.k ≠ e.k → y.f ≠ e.r ∧ y.r ≠ e.r := fun y hy hk => by
    have hfl : (fi.flatMap fun e => [e.f, e.r]).Nodup := by
      unfold restB at hnd
      simp only [List.nodup_cons] at hnd
      exact hnd.2.2.2.2
    exact flat_apart fi hfl hy he (fun c => hk (by rw [c]))
  refine ⟨h.tab.keep f (hx b (by simp)), h.map1.keep f (hx m1 (by simp)), by rw [updF_fiM]; exact h.map2.keep f (hx m2 (by simp)), h.map3.keep f (hx m3 (by simp)), fun x hx => own_keepV (h.rows x hx) f (fun y hy e1 => ?_), fun y hy => ?_, h.gs, by rw [updF_rest]; exact h.rs, by rw [updF_rest]; exact h.dj⟩
  · injection hy with hy
    have hy : x.g = y := hy
    refine h.dj x hx ?_
    rw [hy, e1]
    unfold restB
    simp only [List.mem_cons, List.mem_flatMap]
    exact .inr (.inr (.inr (.inr ⟨e, he, by simp⟩)))
  · obtain ⟨z, hz, ez⟩ := List.mem_map.1 hy
    by_cases c : z.k = e.k
    · rw [if_pos c] at ez
      have : z = e := by
        obtain ⟨i, hi, ei⟩ := List.getElem_of_mem hz
        obtain ⟨q, hq, eq⟩ := List.getElem_of_mem he
        by_cases hiq : i = q
        · subst hiq; rw [← ei, eq]
        · exfalso
          have hp := List.pairwise_iff_getElem.1 nd
          rcases Nat.lt_or_gt_of_ne hiq with c1 | c1
          · exact hp i q (by simpa using hi) (by simpa using hq) c1 (by simp [ei, eq, c])
          · exact hp q i (by simpa using hq) (by simpa using hi) c1 (by simp [ei, eq, c])
      subst this
      subst ez
      exact hS
    · rw [if_neg c] at ez
      subst ez
      exact (h.sets z hz).keep f (hdif z hz c).1 (hdif z hz c).2
end Go.Proofs.Ytdhbpklmkibmbaa
