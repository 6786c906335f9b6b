/- Layer 11 (remset): Add, in the sets' own words. -/
import Derived.Test.YtdhbpklmkibmbaaRem12
namespace Go.Proofs.Ytdhbpklmkibmbaa
open Go.Vc

theorem good_put {n per : Int} {A : Abs} {sp : List SpE} {fi : List FiE} {co : List (Int × Int)} (h : GoodG n per A sp fi co) (nd : (sp.map (·.k)).Nodup) (e : SpE) (hk : okK n e.k) (hc : e.k ∉ co) (hf : e.k ∉ fi.map (·.k)) (h1 : e.l ≠ []) (h2 : e.l.length ≤ 4) (h3 : e.l.Nodup) (h4 : ∀ c ∈ e.l, 0 ≤ c ∧ c < n * per ∧ c / per = e.k.2) :
    GoodG n per (updA A e.k (.sp e.l)) (putSp sp e) fi co where
  spk x hx := by
    rcases putSp_ne nd hx with rfl | ⟨hx, hne⟩
    · exact ⟨hk, updA_same _ _ _, h1, h2, h3, h4⟩
    · obtain ⟨a, b, c⟩ := h.spk x hx
      exact ⟨a, by rw [updA_ne hne]; exact b, c⟩
  fik x hx := by
    obtain ⟨a, b, c⟩ := h.fik x hx
    exact ⟨a, by rw [updA_ne (fun e => hf (List.mem_map.2 ⟨x, hx, e⟩))]; exact b, c⟩
  cok k hk := by
    obtain ⟨a, b⟩ := h.cok k hk
    have hne : k ≠ e.k := fun e' => hc (by rw [← e']; exact hk)
    exact ⟨a, by rw [updA_ne hne]; exact b⟩
  non k a b c := by
    obtain ⟨a1, a2⟩ := putSp_key a
    rw [updA_ne a1]
    exact h.non k a2 b c
  five := h.five
theorem updF_keys (fi : List FiE) (k : Int × Int) (j : Nat) : (updF fi k j).map (·.k) = fi.map (·.k) := by
  rw [← fiM_keys, updF_fiM, fiM_keys]
theorem good_updF {n per : Int} {A : Abs} {sp : List SpE} {fi : List FiE} {co : List (Int × Int)} (h : GoodG n per A sp fi co) (nd : (fi.map (·.k)).Nodup) {e : FiE} (he : e ∈ fi) (j : Nat) (hj : (j : Int) < per) : GoodG n per (updA A e.k (.fi (bput e.S j))) sp (updF fi e.k j) co where
  spk x hx := by
    obtain ⟨a, b, c⟩ := h.spk x hx
    exact ⟨a, by rw [updA_ne (fun e' => h.fs e he (List.mem_map.2 ⟨x, hx, e'⟩))]; exact b, c⟩
  fik x hx := by
    obtain ⟨y, hy, ey⟩ := List.mem_map.1 hx
    obtain ⟨a, b, c⟩ := h.fik y hy
    by_cases ce : y.k = e.k
    · rw [if_pos ce] at ey
      have hye : y = e := by
        have h1 : A y.k = .fi y.S := b
        obtain ⟨i, hi, ei⟩ := List.getElem_of_mem hy
        obtain ⟨q, hq, eq⟩ := List.getElem_of_mem he
        by_cases ciq : i = q
        · subst ciq; rw [← ei, eq]
        · exfalso
          have hp := List.pairwise_iff_getElem.1 nd
          rcases Nat.lt_or_gt_of_ne ciq with cc | cc
          · exact hp i q (by simpa using hi) (by simpa using hq) cc (by simp [ei, eq, ce])
          · exact hp q i (by simpa using hq) (by simpa using hi) cc (by simp [ei, eq, ce])
      subst hye
      subst ey
      refine ⟨a, updA_same _ _ _, fun i hi => ?_⟩
      unfold bput at hi
      simp only [Bool.or_eq_true, decide_eq_true_eq] at hi
      rcases hi with hi | hi
      · omega
      · exact c i hi
    · rw [if_neg ce] at ey
      subst ey
      exact ⟨a, by rw [updA_ne ce]; exact b, c⟩
  cok k hk := by
    obtain ⟨a, b⟩ := h.cok k hk
    have hne : k ≠ e.k := fun e' => h.fc e he (by rw [← e']; exact hk)
    exact ⟨a, by rw [updA_ne hne]; exact b⟩
  non k a b c := by
    rw [updF_keys] at b
    have hne : k ≠ e.k := fun e' => b (List.mem_map.2 ⟨e, he, e'.symm⟩)
    rw [updA_ne hne]
    exact h.non k a b c
  five hm := by
    rw [homeK_eq, updF_keys, ← homeK_eq]; exact h.five hm
theorem delSp_mem {sp : List SpE} {k : Int × Int} {x : SpE} (h : x ∈ delSp sp k) : x ∈ sp ∧ x.k ≠ k := by
  obtain ⟨a, b⟩ := List.mem_filter.1 h
  exact ⟨a, by simpa using b⟩
theorem delFi_mem {fi : List FiE} {k : Int × Int} {x : FiE} (h : x ∈ delFi fi k) : x ∈ fi ∧ x.k ≠ k := by
  obtain ⟨a, b⟩ := List.mem_filter.1 h
  exact ⟨a, by simpa using b⟩
/-- A sparse source has become fine; the home may have too many. -/
structure Good5 (n per : Int) (A : Abs) (sp : List SpE) (fi : List FiE) (co : List (Int × Int)) (hm : Int) : Prop where
  spk : ∀ e ∈ sp, okK n e.k ∧ A e.k = .sp e.l ∧ e.l ≠ [] ∧ e.l.length ≤ 4 ∧ e.l.Nodup ∧ ∀ c ∈ e.l, 0 ≤ c ∧ c < n * per ∧ c / per = e.k.2
  fik : ∀ e ∈ fi, okK n e.k ∧ A e.k = .fi e.S ∧ ∀ j, e.S j = true → (j : Int) < per
  cok : ∀ k ∈ co, okK n k ∧ A k = .co
  non : ∀ k, k ∉ sp.map (·.k) → k ∉ fi.map (·.k) → k ∉ co → A k = .sp []
  five : ∀ h, h ≠ hm → (homeK h fi).length ≤ 4
  six : (homeK hm fi).length ≤ 5
theorem good_refine {n per : Int} {A : Abs} {sp : List SpE} {fi : List FiE} {co : List (Int × Int)} (h : GoodG n per A sp fi co) (e : FiE) (hk : okK n e.k) (hc : e.k ∉ co) (hf : e.k ∉ fi.map (·.k)) (hS : ∀ j, e.S j = true → (j : Int) < per) :
    Good5 n per (updA A e.k (.fi e.S)) (delSp sp e.k) (fi ++ [e]) co e.k.1 where
  spk x hx := by
    obtain ⟨hx, hne⟩ := delSp_mem hx
    obtain ⟨a, b, c⟩ := h.spk x hx
    exact ⟨a, by rw [updA_ne hne]; exact b, c⟩
  fik x hx := by
    rcases List.mem_append.1 hx with hx | hx
    · obtain ⟨a, b, c⟩ := h.fik x hx
      exact ⟨a, by rw [updA_ne (fun e' => hf (List.mem_map.2 ⟨x, hx, e'⟩))]; exact b, c⟩
    · have := List.mem_singleton.1 hx
      subst this
      exact ⟨hk, updA_same _ _ _, hS⟩
  cok k hk := by
    obtain ⟨a, b⟩ := h.cok k hk
    have hne : k ≠ e.k := fun e' => hc (by rw [← e']; exact hk)
    exact ⟨a, by rw [updA_ne hne]; exact b⟩
  non k a b c := by
    have hne : k ≠ e.k := fun e' => b (List.mem_map.2 ⟨e, by simp, e'.symm⟩)
    rw [updA_ne hne]
    refine h.non k (fun hh => a ?_) (fun hh => b ?_) c
    · obtain ⟨x, hx, ex⟩ := List.mem_map.1 hh
      exact List.mem_map.2 ⟨x, List.mem_filter.2 ⟨hx, by simpa [ex] using hne⟩, ex⟩
    · rw [List.map_append]; exact List.mem_append_left _ hh
  five hm hne := by
    have : homeK hm (fi ++ [e]) = homeK hm fi := by
      unfold homeK
      rw [List.flatMap_append]
      have : ([e].flatMap fun e => if e.k.1 = hm then [e.k] else []) = [] := by simp [Ne.symm hne]
      rw [this, List.append_nil]
    rw [this]; exact h.five hm
  six := by
    have h4 := h.five e.k.1
    unfold homeK at h4 ⊢
    rw [List.flatMap_append, List.length_append]
    have : ([e].flatMap fun e' => if e'.k.1 = e.k.1 then [e'.k] else []).length ≤ 1 := by simp
    omega
theorem Good5.isFi {n per hm : Int} {A : Abs} {sp : List SpE} {fi : List FiE} {co : List (Int × Int)} (h : Good5 n per A sp fi co hm) (k : Int × Int) : (A k).isFi = true ↔ k ∈ fi.map (·.k) := by
  constructor
  · intro hi
    by_cases c : k ∈ fi.map (·.k)
    · exact c
    exfalso
    by_cases c2 : k ∈ co
    · rw [(h.cok k c2).2] at hi; cases hi
    by_cases c3 : k ∈ sp.map (·.k)
    · obtain ⟨x, hx, rfl⟩ := List.mem_map.1 c3
      rw [(h.spk x hx).2.1] at hi; cases hi
    · rw [h.non k c3 c c2] at hi; cases hi
  · intro hk
    obtain ⟨x, hx, rfl⟩ := List.mem_map.1 hk
    rw [(h.fik x hx).2.1]; rfl
theorem good_few {n per hm : Int} {A : Abs} {sp : List SpE} {fi : List FiE} {co : List (Int × Int)} (h : Good5 n per A sp fi co hm) (h4 : (homeK hm fi).length ≤ 4) : GoodG n per A sp fi co :=
  ⟨h.spk, h.fik, h.cok, h.non, fun k => by
    by_cases c : k = hm
    · rw [c]; exact h4
    · exact h.five k c⟩
theorem good_coarse {n per hm : Int} {A : Abs} {sp : List SpE} {fi : List FiE} {co : List (Int × Int)} (h : Good5 n per A sp fi co hm) {M : Int × Int} (hM : M ∈ homeK hm fi) : GoodG n per (updA A M .co) sp (delFi fi M) (co ++ [M]) := by
  have hMf := homeK_mem hM
  obtain ⟨m, hm1, hm2⟩ := List.mem_map.1 hMf
  have hAM : A M = .fi m.S := by rw [← hm2]; exact (h.fik m hm1).2.1
  refine ⟨fun x hx => ?_, fun x hx => ?_, fun k hk => ?_, fun k a b c => ?_, fun k => ?_⟩
  · obtain ⟨a, b, c⟩ := h.spk x hx
    refine ⟨a, ?_, c⟩
    rw [updA_ne (fun e => by rw [e, hAM] at b; cases b)]; exact b
  · obtain ⟨hx, hne⟩ := delFi_mem hx
    obtain ⟨a, b, c⟩ := h.fik x hx
    exact ⟨a, by rw [updA_ne hne]; exact b, c⟩
  · rcases List.mem_append.1 hk with hk | hk
    · obtain ⟨a, b⟩ := h.cok k hk
      refine ⟨a, ?_⟩
      rw [updA_ne (fun e => by rw [e, hAM] at b; cases b)]; exact b
    · have := List.mem_singleton.1 hk
      subst this
      exact ⟨by rw [← hm2]; exact (h.fik m hm1).1, updA_same _ _ _⟩
  · have hne : k ≠ M := fun e => c (List.mem_append_right _ (by simp [e]))
    rw [updA_ne hne]
    refine h.non k a (fun hh => b ?_) (fun hh => c (List.mem_append_left _ hh))
    obtain ⟨x, hx, ex⟩ := List.mem_map.1 hh
    exact List.mem_map.2 ⟨x, List.mem_filter.2 ⟨hx, by simpa [ex] using hne⟩, ex⟩
  · have hsub : (homeK k (delFi fi M)).Sublist (homeK k fi) := sub_flat _ List.filter_sublist
    by_cases c : k = hm
    · subst c
      have h6 := h.six
      have : (homeK k (delFi fi M)).length < (homeK k fi).length := by
        rcases Nat.lt_or_eq_of_le hsub.length_le with h1 | h1
        · exact h1
        · exfalso
          have := hsub.eq_of_length h1
          rw [← this] at hM
          obtain ⟨x, hx, ex⟩ := List.mem_map.1 (homeK_mem hM)
          exact (delFi_mem hx).2 ex
      omega
    · exact Nat.le_trans hsub.length_le (h.five k c)
theorem coarsen_few {n per hm : Int} {A : Abs} (h : (finesA n A hm).length ≤ 4) : coarsenA n per A hm = A := by
  unfold coarsenA
  split
  · rfl
  · rename_i x L e
    rw [e, List.length_cons] at h
    rw [if_pos h]
theorem coarsen_most {n per hm : Int} {A : Abs} {sp : List SpE} {fi : List FiE} {co : List (Int × Int)} (h : Good5 n per A sp fi co hm) (nd : (fi.map (·.k)).Nodup) {x : Int × Int} {L : List (Int × Int)} (hp : (x :: L).Perm (homeK hm fi)) (hs : (x :: L).Pairwise (fun a b => a.2 ≤ b.2)) (h4 : 4 < (homeK hm fi).length) :
    coarsenA n per A hm = updA A (maxP (szF per fi) x L) .co ∧ maxP (szF per fi) x L ∈ homeK hm fi := by
  have hf := fines_perm nd (fun e he => (h.fik e he).1) h.isFi hm
  have e1 : (x :: L).map (·.2) = finesA n A hm := by
    refine List.Perm.eq_of_pairwise (le := fun a b => a ≤ b) (fun a b _ _ h1 h2 => by omega) (List.pairwise_map.2 hs) ?_ ((hp.map _).trans hf)
    exact ((rng_sorted n).imp fun h => by omega).filter _
  have hmem : ∀ y ∈ x :: L, y.1 = hm ∧ szF per fi y = szA per (A (hm, y.2)) := fun y hy => by
    have hy := hp.mem_iff.1 hy
    have h1 : y.1 = hm := by rw [homeK_eq] at hy; simpa using (List.mem_filter.1 hy).2
    refine ⟨h1, ?_⟩
    obtain ⟨e, he, rfl⟩ := List.mem_map.1 (homeK_mem hy)
    rw [szF_eq nd he, ← h1]
    show _ = szA per (A e.k)
    rw [(h.fik e he).2.1]; rfl
  have hl : L.length + 1 = (homeK hm fi).length := by have := hp.length_eq; rw [List.length_cons] at this; exact this
  refine ⟨?_, ?_⟩
  · unfold coarsenA
    rw [← e1]
    show (if (L.map (·.2)).length + 1 ≤ 4 then A else _) = _
    rw [List.length_map, if_neg (by omega), maxP_map (sz' := fun s => szA per (A (hm, s))) L x hmem]
  · rcases maxP_mem (szF per fi) L x with e | e
    · rw [e]; exact hp.mem_iff.1 (by simp)
    · exact hp.mem_iff.1 (List.mem_cons_of_mem _ e)
theorem setOf_lt {per : Int} {l : List Int} {j : Nat} (hp : 1 ≤ per) (h : setOf per l j = true) : (j : Int) < per := by
  unfold setOf at h
  obtain ⟨c, _, e⟩ := of_decide_eq_true h
  have e0 := Int.emod_nonneg c (show per ≠ 0 by omega)
  have e1 := Int.emod_lt_of_pos c (show 0 < per by omega)
  omega
theorem restB_sub {b m1 m2 m3 : Nat} {fi fi' : List FiE} (h : fi'.Sublist fi) : ∀ x ∈ restB b m1 m2 m3 fi', x ∈ restB b m1 m2 m3 fi := by
  have : (restB b m1 m2 m3 fi').Sublist (restB b m1 m2 m3 fi) := by
    unfold restB
    exact ((((sub_flat _ h).cons_cons _).cons_cons _).cons_cons _).cons_cons _
  exact fun x hx => this.subset hx
theorem restB_snoc {b m1 m2 m3 : Nat} {fi : List FiE} {e : FiE} {x : Nat} (h : x ∈ restB b m1 m2 m3 (fi ++ [e])) : x ∈ restB b m1 m2 m3 fi ∨ x = e.f ∨ x = e.r := by
  have : restB b m1 m2 m3 (fi ++ [e]) = restB b m1 m2 m3 fi ++ [e.f, e.r] := by simp [restB]
  rw [this] at h
  rcases List.mem_append.1 h with h | h
  · exact .inl h
  · right; simpa using h

end Go.Proofs.Ytdhbpklmkibmbaa
