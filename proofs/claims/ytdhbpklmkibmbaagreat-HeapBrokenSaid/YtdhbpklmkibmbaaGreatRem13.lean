/- Layer 11 (remset): Add, in the sets' own words. -/
import Derived.Test.YtdhbpklmkibmbaaGreatRem12
namespace Go.Proofs.YtdhbpklmkibmbaaGreat
open Go.Vc

theorem good_put {n per : Int} {A : Abs} {sp : List SpE} {fi : List FiE} {co : List (Int × Int)} (h : GoodG n per A sp fi co) (nd : (sp.map (·.k)).Nodup) (e : SpE) (hk : okK n e.k) (hc : e.k ∉ co) (hf : e.k ∉ fi.map (·.k)) (h1 : e.l ≠ []) (h2 : e.l.length ≤ 4) (h3 : e.l.Nodup) (h4 : ∀ c ∈ e.l, 0 ≤ c ∧ c < n * per ∧ c / per = e.k.2) :
    GoodG n per (updA A e.k (.sp e.l)) (putSp sp e) fi co where
  spk x hx := by
    rcases putSp_ne nd hx with rfl | ⟨hx, hne⟩
    · exact ⟨hk, updA_same _ _ _, h1, h2, h3, h4⟩
    · obtain ⟨a, b, c⟩ := h.spk x hx
      exact ⟨a, by rw [updA_ne hne]; exact b, c⟩
  fik x hx := by
    obtain ⟨a, b, c⟩ := h.fik x hx
    exact ⟨a, by rw [updA_ne (fun e => hf (List.mem_map.2 ⟨x, hx, e⟩))]; exact b, c⟩
  cok k hk := by
    obtain ⟨a, b⟩ := h.cok k hk
    have hne : k ≠ e.k := fun e' => hc (by rw [← e']; exact hk)
    exact ⟨a, by rw [updA_ne hne]; exact b⟩
  non k a b c := by
    obtain ⟨a1, a2⟩ := putSp_key a
    rw [updA_ne a1]
    exact h.non k a2 b c
  five := h.five
theorem updF_keys (fi : List FiE) (k : Int × Int) (j : Nat) : (updF fi k j).map (·.k) = fi.map (·.k) := by
  rw [← fiM_keys, updF_fiM, fiM_keys]
theorem good_updF {n per : Int} {A : Abs} {sp : List SpE} {fi : List FiE} {co : List (Int × Int)} (h : GoodG n per A sp fi co) (nd : (fi.map (·.k)).Nodup) {e : FiE} (he : e ∈ fi) (j : Nat) (hj : (j : Int) < per) : GoodG n per (updA A e.k (.fi (bput e.S j))) sp (updF fi e.k j) co where
  spk x hx := by
    obtain ⟨a, b, c⟩ := h.spk x hx
    exact ⟨a, by rw [updA_ne (fun e' => h.fs e he (List.mem_map.2 ⟨x, hx, e'⟩))]; exact b, c⟩
  fik x hx := by
    obtain ⟨y, hy, ey⟩ := List.mem_map.1 hx
    obtain ⟨a, b, c⟩ := h.fik y hy
    by_cases ce : y.k = e.k
    · rw [if_pos ce] at ey
      have hye : y = e := by
        have h1 : A y.k = .fi y.S := b
        obtain ⟨i, hi, ei⟩ := List.getElem_of_mem hy
        obtain ⟨q, hq, eq⟩ := List.getElem_of_mem he
        by_cases ciq : i = q
        · subst ciq; rw [← ei, eq]
        · exfalso
          have hp := List.pairwise_iff_getElem.1 nd
          rcases Nat.lt_or_gt_of_ne ciq with cc | cc
          · exact hp i q (by simpa using hi) (by simpa using hq) cc (by simp [ei, eq, ce])
          · exact hp q i (by simpa using hq) (by simpa using hi) cc (by simp [ei, eq, ce])
      subst hye
      subst ey
      refine ⟨a, updA_same _ _ _, fun i hi => ?_⟩
      unfold bput at hi
      simp only [Bool.or_eq_true, decide_eq_true_eq] at hi
      rcases hi with hi | hi
      · omega
      · exact c i hi
    · rw [if_neg ce] at ey
      subst ey
      exact ⟨a, by rw [updA_ne ce]; exact b, c⟩
  cok k hk := by
    obtain ⟨a, b⟩ := h.cok k hk
    have hne : k ≠ e.k := fun e' => h.fc e he (by rw [← e']; exact hk)
    exact ⟨a, by rw [updA_ne hne]; exact b⟩
  non k a b c := by
    rw [updF_keys] at b
    have hne : k ≠ e.k := fun e' => b (List.mem_map.2 ⟨e, he, e'.symm⟩)
    rw [updA_ne hne]
    exact h.non k a b c
  five hm := by
    rw [homeK_eq, updF_keys, ← homeK_eq]; exact h.five hm
theorem delSp_mem {sp : List SpE} {k : Int × Int} {x : SpE} (h : x ∈ delSp sp k) : x ∈ sp ∧ x.k ≠ k := by
  obtain ⟨a, b⟩ := List.mem_filter.1 h
  exact ⟨a, by simpa using b⟩
theorem delFi_mem {fi : List FiE} {k : Int × Int} {x : FiE} (h : x ∈ delFi fi k) : x ∈ fi ∧ x.k ≠ k := by
  obtain ⟨a, b⟩ := List.mem_filter.1 h
  exact ⟨a, by simpa using b⟩
/-- A sparse source has become fine; the home may have too many. -/
structure Good5 (n per : Int) (A : Abs) (sp : List SpE) (fi : List FiE) (co : List (Int × Int)) (hm : Int) : Prop where
  spk : ∀ e ∈ sp, okK n e.k ∧ A e.k = .sp e.l ∧ e.l ≠ [] ∧ e.l.length ≤ 4 ∧ e.l.Nodup ∧ ∀ c ∈ e.l, 0 ≤ c ∧ c < n * per ∧ c / per = e.k.2
  fik : ∀ e ∈ fi, okK n e.k ∧ A e.k = .fi e.S ∧ ∀ j, e.S j = true → (j : Int) < per
  cok : ∀ k ∈ co, okK n k ∧ A k = .co
  non : ∀ k, k ∉ sp.map (·.k) → k ∉ fi.map (·.k) → k ∉ co → A k = .sp []
  five : ∀ h, h ≠ hm → (homeK h fi).length ≤ 4
  six : (homeK hm fi).length ≤ 5
theorem good_refine {n per : Int} {A : Abs} {sp : List SpE} {fi : List FiE} {co : List (Int × Int)} (h : GoodG n per A sp fi co) (e : FiE) (hk : okK n e.k) (hc : e.k ∉ co) (hf : e.k ∉ fi.map (·.k)) (hS : ∀ j, e.S j = true → (j : Int) < per) :
    Good5 n per (updA A e.k (.fi e.S)) (delSp sp e.k) (fi ++ [e]) co e.k.1 where
  spk x hx := by
    obtain ⟨hx, hne⟩ := delSp_mem hx
    obtain ⟨a, b, c⟩ := h.spk x hx
    exact ⟨a, by rw [updA_ne hne]; exact b, c⟩
  fik x hx := by
    rcases List.mem_append.1 hx with hx | hx
    · obtain ⟨a, b, c⟩ := h.fik x hx
      exact ⟨a, by rw [updA_ne (fun e' => hf (List.mem_map.2 ⟨x, hx, e'⟩))]; exact b, c⟩
    · have := List.mem_singleton.1 hx
      subst this
      exact ⟨hk, updA_same _ _ _, hS⟩
  cok k hk := by
    obtain ⟨a, b⟩ := h.cok k hk
    have hne : k ≠ e.k := fun e' => hc (by rw [← e']; exact hk)
    exact ⟨a, by rw [updA_ne hne]; exact b⟩
  non k a b c := by
    have hne : k ≠ e.k := fun e' => b (List.mem_map.2 ⟨e, by simp, e'.symm⟩)
    rw [updA_ne hne]
    refine h.non k (fun hh => a ?_) (fun hh => b ?_) c
    · obtain ⟨x, hx, ex⟩ := List.mem_map.1 hh
      exact List.mem_map.2 ⟨x, List.mem_filter.2 ⟨hx, by simpa [ex] using hne⟩, ex⟩
    · rw [List.map_append]; exact List.mem_append_left _ hh
  five hm hne := by
    have : homeK hm (fi ++ [e]) = homeK hm fi := by
      unfold homeK
      rw [List.flatMap_append]
      have : ([e].flatMap fun e => if e.k.1 = hm then [e.k] else []) = [] := by simp [Ne.symm hne]
      rw [this, List.append_nil]
    rw [this]; exact h.five hm
  six := by
    have h4 := h.five e.k.1
    unfold homeK at h4 ⊢
    rw [List.flatMap_append, List.length_append]
    have : ([e].flatMap fun e' => if e'.k.1 = e.k.1 then [e'.k] else []).length ≤ 1 := by simp
    omega
theorem Good5.isFi {n per hm : Int} {A : Abs} {sp : List SpE} {fi : List FiE} {co : List (Int × Int)} (h : Good5 n per A sp fi co hm) (k : Int × Int) : (A k).isFi = true ↔ k ∈ fi.map (·.k) := by
  constructor
  · intro hi
    by_cases c : k ∈ fi.map (·.k)
    · exact c
    exfalso
    by_cases c2 : k ∈ co
    · rw [(h.cok k c2).2] at hi; cases hi
    by_cases c3 : k ∈ sp.map (·.k)
    · obtain ⟨x, hx, rfl⟩ := List.mem_map.1 c3
      rw [(h.spk x hx).2.1] at hi; cases hi
    · rw [h.non k c3 c c2] at hi; cases hi
  · intro hk
    obtain ⟨x, hx, rfl⟩ := List.mem_map.1 hk
    rw [(h.fik x hx).2.1]; rfl
theorem good_few {n per hm : Int} {A : Abs} {sp : List SpE} {fi : List FiE} {co : List (Int × Int)} (h : Good5 n per A sp fi co hm) (h4 : (homeK hm fi).length ≤ 4) : GoodG n per A sp fi co :=
  ⟨h.spk, h.fik, h.cok, h.non, fun k => by
    by_cases c : k = hm
    · rw [c]; exact h4
    · exact h.five k c⟩
theorem good_coarse {n per hm : Int} {A : Abs} {sp : List SpE} {fi : List FiE} {co : List (Int × Int)} (h : Good5 n per A sp fi co hm) {M : Int × Int} (hM : M ∈ homeK hm fi) : GoodG n per (updA A M .co) sp (delFi fi M) (co ++ [M]) := by
  have hMf := homeK_mem hM
  obtain ⟨m, hm1, hm2⟩ := List.mem_map.1 hMf
  have hAM : A M = .fi m.S := by rw [← hm2]; exact (h.fik m hm1).2.1
  refine ⟨fun x hx => ?_, fun x hx => ?_, fun k hk => ?_, fun k a b c => ?_, fun k => ?_⟩
  · obtain ⟨a, b, c⟩ := h.spk x hx
    refine ⟨a, ?_, c⟩
    rw [updA_ne (fun e => by rw [e, hAM] at b; cases b)]; exact b
  · obtain ⟨hx, hne⟩ := delFi_mem hx
    obtain ⟨a, b, c⟩ := h.fik x hx
    exact ⟨a, by rw [updA_ne hne]; exact b, c⟩
  · rcases List.mem_append.1 hk with hk | hk
    · obtain ⟨a, b⟩ := h.cok k hk
      refine ⟨a, ?_⟩
      rw [updA_ne (fun e => by rw [e, hAM] at b; cases b)]; exact b
    · have := List.mem_singleton.1 hk
      subst this
      exact ⟨by rw [← hm2]; exact (h.fik m hm1).1, updA_same _ _ _⟩
  · have hne : k ≠ M := fun e => c (List.mem_append_right _ (by simp [e]))
    rw [updA_ne hne]
    refine h.non k a (fun hh => b ?_) (fun hh => c (List.mem_append_left _ hh))
    obtain ⟨x, hx, ex⟩ := List.mem_map.1 hh
    exact List.mem_map.2 ⟨x, List.mem_filter.2 ⟨hx, by simpa [ex] using hne⟩, ex⟩
  · have hsub : (homeK k (delFi fi M)).Sublist (homeK k fi) := sub_flat _ List.filter_sublist
    by_cases c : k = hm
    · subst c
      have h6 := h.six
      have : (homeK k (delFi fi M)).length < (homeK k fi).length := by
        rcases Nat.lt_or_eq_of_le hsub.length_le with h1 | h1
        · exact h1
        · exfalso
          have := hsub.eq_of_length h1
          rw [← this] at hM
          obtain ⟨x, hx, ex⟩ := List.mem_map.1 (homeK_mem hM)
          exact (delFi_mem hx).2 ex
      omega
    · exact Nat.le_trans hsub.length_le (h.five k c)
theorem coarsen_few {n per hm : Int} {A : Abs} (h : (finesA n A hm).length ≤ 4) : coarsenA n per A hm = A := by
  unfold coarsenA
  split
  · rfl
  · rename_i x L e
    rw [e, List.length_cons] at h
    rw [if_pos h]
theorem coarsen_most {n per hm : Int} {A : Abs} {sp : List SpE} {fi : List FiE} {co : List (Int × Int)} (h : Good5 n per A sp fi co hm) (nd : (fi.map (·.k)).Nodup) {x : Int × Int} {L : List (Int × Int)} (hp : (x :: L).Perm (homeK hm fi)) (hs : (x :: L).Pairwise (fun a b => a.2 ≤ b.2)) (h4 : 4 < (homeK hm fi).length) :
    coarsenA n per A hm = updA A (maxP (szF per fi) x L) .co ∧ maxP (szF per fi) x L ∈ homeK hm fi := by
  have hf := fines_perm nd (fun e he => (h.fik e he).1) h.isFi hm
  have e1 : (x :: L).map (·.2) = finesA n A hm := by
    refine List.Perm.eq_of_pairwise (le := fun a b => a ≤ b) (fun a b _ _ h1 h2 => by omega) (List.pairwise_map.2 hs) ?_ ((hp.map _).trans hf)
    exact ((rng_sorted n).imp fun h => by omega).filter _
  have hmem : ∀ y ∈ x :: L, y.1 = hm ∧ szF per fi y = szA per (A (hm, y.2)) := fun y hy => by
    have hy := hp.mem_iff.1 hy
    have h1 : y.1 = hm := by rw [homeK_eq] at hy; simpa using (List.mem_filter.1 hy).2
    refine ⟨h1, ?_⟩
    obtain ⟨e, he, rfl⟩ := List.mem_map.1 (homeK_mem hy)
    rw [szF_eq nd he, ← h1]
    show _ = szA per (A e.k)
    rw [(h.fik e he).2.1]; rfl
  have hl : L.length + 1 = (homeK hm fi).length := by have := hp.length_eq; rw [List.length_cons] at this; exact this
  refine ⟨?_, ?_⟩
  · unfold coarsenA
    rw [← e1]
    show (if (L.map (·.2)).length + 1 ≤ 4 then A else _) = _
    rw [List.length_map, if_neg (by omega), maxP_map (sz' := fun s => szA per (A (hm, s))) L x hmem]
  · rcases maxP_mem (szF per fi) L x with e | e
    · rw [e]; exact hp.mem_iff.1 (by simp)
    · exact hp.mem_iff.1 (List.mem_cons_of_mem _ e)
theorem setOf_lt {per : Int} {l : List Int} {j : Nat} (hp : 1 ≤ per) (h : setOf per l j = true) : (j : Int) < per := by
  unfold setOf at h
  obtain ⟨c, _, e⟩ := of_decide_eq_true h
  have e0 := Int.emod_nonneg c (show per ≠ 0 by omega)
  have e1 := Int.emod_lt_of_pos c (show 0 < per by omega)
  omega
theorem restB_sub {b m1 m2 m3 : Nat} {fi fi' : List FiE} (h : fi'.Sublist fi) : ∀ x ∈ restB b m1 m2 m3 fi', x ∈ restB b m1 m2 m3 fi := by
  have : (restB b m1 m2 m3 fi').Sublist (restB b m1 m2 m3 fi) := by
    unfold restB
    exact ((((sub_flat _ h).cons_cons _).cons_cons _).cons_cons _).cons_cons _
  exact fun x hx => this.subset hx
theorem restB_snoc {b m1 m2 m3 : Nat} {fi : List FiE} {e : FiE} {x : Nat} (h : x ∈ restB b m1 m2 m3 (fi ++ [e])) : x ∈ restB b m1 m2 m3 fi ∨ x = e.f ∨ x = e.r := by
  have : restB b m1 m2 m3 (fi ++ [e]) = restB b m1 m2 m3 fi ++ [e.f, e.r] := by simp [restB]
  rw [this] at h
  rcases List.mem_append.1 h with h | h
  · exact .inl h
  · right; simpa using h

set_option maxHeartbeats 1000000 in
theorem Add_RS {w : World} {b : Nat} {B : Nat → Prop} {n per : Int} {A : Abs} (C : RCfg n per) (hm c : Int) (h : RS w b B n per A) :
    CallC Pr f_remset_Sets_Add [.pointer (some ⟨b, 0, none⟩), .int .i64 hm, .int .i64 c] w (fun v w' => v = .tuple #[.bool (addA n per A hm c).1, .int .i64 (addA n per A hm c).2.1] ∧ (∃ B', RS w' b B' n per (addA n per A hm c).2.2 ∧ ∀ x, B' x → B x ∨ w.heap.size ≤ x) ∧ Fr B w w') := by
  obtain ⟨m1, m2, m3, sp, fi, co, hG, g, hB, hBs⟩ := id h
  have C1 := C.p1
  have C2 := C.n1
  have C3 := C.n6
  have C4 := C.np
  have nds : (sp.map (·.k)).Nodup := by rw [← spM_keys]; exact hG.map1.nodup
  have ndf : (fi.map (·.k)).Nodup := by rw [← fiM_keys]; exact hG.map2.nodup
  have mr : ∀ x ∈ [b, m1, m2, m3], x ∈ restB b m1 m2 m3 fi := fun x hx => by
    unfold restB
    simp at hx ⊢
    rcases hx with h | h | h | h <;> simp [h]
  have same : ∀ {w' : World}, Fr No w w' → (∃ B', RS w' b B' n per A ∧ ∀ x, B' x → B x ∨ w.heap.size ≤ x) ∧ Fr B w w' := fun f => ⟨⟨B, h.keep f (fun _ _ => id), fun x hx => .inl hx⟩, f.weak (fun _ _ e => e.elim)⟩
  unfold addA
  by_cases hr : 0 ≤ hm ∧ hm < n ∧ 0 ≤ c ∧ c < n * per
  · rw [if_pos hr]
    by_cases hne : hm = c / per
    · rw [if_pos hne]
      refine CallC_mk (Calls.mono (CallC_elim (Add_shape hm c w hG.tab C1 C2 C4 hr hne)) fun e w' ⟨v, he, hv, f⟩ => ⟨v, he, hv, same f⟩)
    rw [if_neg hne]
    obtain ⟨k, ek⟩ : ∃ k, k = (hm, c / per) := ⟨_, rfl⟩
    have q0 := Int.ediv_nonneg hr.2.2.1 (show 0 ≤ per by omega)
    have q1 : c / per < n := Int.ediv_lt_of_lt_mul (by omega) hr.2.2.2
    have hok : okK n k := by rw [ek]; exact ⟨hr.1, hr.2.1, q0, q1, hne⟩
    rw [← ek]
    -- a sparse source
    have sparse : ∀ l, A k = .sp l → k ∉ co → k ∉ fi.map (·.k) → ((spGet sp k = none ∧ l = []) ∨ ∃ o, spGet sp k = some o ∧ o.l = l) → l.length ≤ 4 → l.Nodup → (∀ x ∈ l, 0 ≤ x ∧ x < n * per ∧ x / per = k.2) →
        CallC Pr f_remset_Sets_Add [.pointer (some ⟨b, 0, none⟩), .int .i64 hm, .int .i64 c] w (fun v w' => v = .tuple #[.bool (if c ∈ l then (false, 0, A) else if l.length < 4 then (true, 0, updA A k (.sp (l ++ [c]))) else (true, 0, coarsenA n per (updA A k (.fi (setOf per (l ++ [c])))) hm) : Bool × Int × Abs).1,
          .int .i64 (if c ∈ l then (false, 0, A) else if l.length < 4 then (true, 0, updA A k (.sp (l ++ [c]))) else (true, 0, coarsenA n per (updA A k (.fi (setOf per (l ++ [c])))) hm) : Bool × Int × Abs).2.1] ∧
          (∃ B', RS w' b B' n per (if c ∈ l then (false, 0, A) else if l.length < 4 then (true, 0, updA A k (.sp (l ++ [c]))) else (true, 0, coarsenA n per (updA A k (.fi (setOf per (l ++ [c])))) hm) : Bool × Int × Abs).2.2 ∧ ∀ x, B' x → B x ∨ w.heap.size ≤ x) ∧ Fr B w w') := by
      intro l hA hc hf hl h4 hnd hall
      have hco : getM (coM co) k = none := co_not hc
      have hfi : getM (fiM fi) k = none := fi_not hf
      have hall' : ∀ x ∈ l ++ [c], 0 ≤ x ∧ x < n * per ∧ x / per = k.2 := fun x hx => by
        rcases List.mem_append.1 hx with hx | hx
        · exact hall x hx
        · have := List.mem_singleton.1 hx
          subst this
          exact ⟨hr.2.2.1, hr.2.2.2, by rw [ek]⟩
      rw [ek] at hco hfi hl
      by_cases c1 : c ∈ l
      · rw [if_pos c1]
        refine CallC_mk (Calls.mono (CallC_elim (Add_in hm c l w hG C1 C2 C4 hr hne hco hfi hl c1 (by omega))) fun e w' ⟨v, he, hv, f⟩ => ⟨v, he, hv, same f⟩)
      rw [if_neg c1]
      by_cases c2 : l.length < 4
      · rw [if_pos c2]
        refine CallC_mk (Calls.mono (CallC_elim (Add_sp hm c l w hG C1 C2 C4 hr hne hco hfi hl c1 c2)) fun e w' hh => ?_)
        obtain ⟨v, he, hv, ⟨x, xk, xl, hS, xg⟩, f⟩ := hh
        rw [← ek] at xk
        have hgd := good_put g nds x (by rw [xk]; exact hok) (by rw [xk]; exact hc) (by rw [xk]; exact hf) (by rw [xl]; simp) (by rw [xl, List.length_append]; show l.length + 1 ≤ 4; omega) (by
          rw [xl]
          refine List.nodup_append.2 ⟨hnd, by simp, fun a ha b' hb' e' => c1 ?_⟩
          have : b' = c := by simpa using hb'
          rw [← this, ← e']; exact ha) (by rw [xl, xk]; exact hall')
        rw [xk, xl] at hgd
        refine ⟨v, he, hv, ⟨fun y => B y ∨ w.heap.size ≤ y, ⟨m1, m2, m3, _, _, _, hS, hgd, fun y hy => .inl (hB y hy), fun y hy => ?_⟩, fun y hy => hy⟩, f.weak (fun y _ e => ?_)⟩
        · rcases mem_putSp hy with rfl | hy
          · rcases xg with ⟨o, ho, eg⟩ | hle
            · rw [eg]; exact .inl (hBs o (spGet_some ho).1)
            · exact .inr hle
          · exact .inl (hBs y hy)
        · rcases e with e | ⟨o, ho, e⟩
          · rw [e]; exact hB m1 (mr _ (by simp))
          · rw [e]; exact hBs o (spGet_some ho).1
      · rw [if_neg c2]
        refine CallC_mk (Calls.mono (CallC_elim (Add_full hm c l w hG C1 C2 C4 hr hne hco hfi hl c1 (by omega) (by omega) (fun x hx => (hall x hx).1) (idx_not (by rw [fiM_keys, ← ek]; exact hf)) C3 (g.five hm) (fun e he => by have := (g.fik e he).1; unfold okK at this; omega) g.fc (by rw [← ek]; exact hc))) fun e w' hh => ?_)
        obtain ⟨v, he, hv, ⟨f, r, fi1, efi1, hf1, hr1, hcase⟩, fr⟩ := hh
        rw [← ek] at efi1 hcase fr
        have h5 := good_refine g ⟨k, f, r, setOf per (l ++ [c])⟩ hok hc hf (fun j hj => setOf_lt C1 hj)
        rw [← efi1] at h5
        have hk1 : k.1 = hm := by rw [ek]
        have h5 : Good5 n per (updA A k (.fi (setOf per (l ++ [c])))) (delSp sp k) fi1 co hm := by rw [← hk1]; exact h5
        have ndf1 : (fi1.map (·.k)).Nodup := by
          rw [efi1, List.map_append]
          refine List.nodup_append.2 ⟨ndf, by simp, fun a ha b' hb' e' => hf ?_⟩
          have : b' = k := by simpa using hb'
          rw [← this, ← e']; exact ha
        have hbl : ∀ y ∈ restB b m1 m2 m3 fi1, B y ∨ w.heap.size ≤ y := fun y hy => by
          rw [efi1] at hy
          rcases restB_snoc hy with h1 | h1 | h1
          · exact .inl (hB y h1)
          · right; rw [h1]; exact hf1
          · right; rw [h1]; exact hr1
        have hfr : Fr B w w' := fr.weak (fun y _ e => by
          rcases e with e | e | e | ⟨o, ho, e⟩
          · rw [e]; exact hB m1 (mr _ (by simp))
          · rw [e]; exact hB m2 (mr _ (by simp))
          · rw [e]; exact hB m3 (mr _ (by simp))
          · rw [e]; exact hBs o (spGet_some ho).1)
        have hlen : (finesA n (updA A k (.fi (setOf per (l ++ [c])))) hm).length = (homeK hm fi1).length := by
          have := (fines_perm ndf1 (fun e he => (h5.fik e he).1) h5.isFi hm).length_eq
          rw [List.length_map] at this; exact this.symm
        rcases hcase with ⟨h4', hS⟩ | ⟨h4', x, L, hp, hs, hS⟩
        · rw [coarsen_few (by omega)]
          exact ⟨v, he, hv, ⟨fun y => B y ∨ w.heap.size ≤ y, ⟨m1, m2, m3, _, _, _, hS, good_few h5 h4', hbl, fun y hy => .inl (hBs y (delSp_mem hy).1)⟩, fun y hy => hy⟩, hfr⟩
        · obtain ⟨ec, hM⟩ := coarsen_most h5 ndf1 hp hs h4'
          rw [ec]
          exact ⟨v, he, hv, ⟨fun y => B y ∨ w.heap.size ≤ y, ⟨m1, m2, m3, _, _, _, hS, good_coarse h5 hM, fun y hy => hbl y (restB_sub List.filter_sublist y hy), fun y hy => .inl (hBs y (delSp_mem hy).1)⟩, fun y hy => hy⟩, hfr⟩
    rcases g.src k with ⟨hc, eA⟩ | ⟨e, he, hek, hnc, eA⟩ | ⟨⟨e, he, hek, eA⟩, hnc, hnf⟩ | ⟨hns, hnc, hnf, eA⟩
    · rw [eA]
      rw [ek] at hc
      refine CallC_mk (Calls.mono (CallC_elim (Add_co hm c w hG C1 C2 C4 hr hne hc)) fun e w' ⟨v, he, hv, f⟩ => ⟨v, he, hv, same f⟩)
    · rw [eA]
      have hco := co_not hnc
      have hek' := hek
      rw [ek] at hco hek'
      refine CallC_mk (Calls.mono (CallC_elim (Add_fi hm c e w hG C1 C2 C4 hr hne hco he hek')) fun e' w' hh => ?_)
      obtain ⟨v, he', hv, hS, f⟩ := hh
      have e1 := Int.emod_lt_of_pos c (show 0 < per by omega)
      have e0 := Int.emod_nonneg c (show per ≠ 0 by omega)
      have hgd := good_updF g ndf he (c % per).toNat (by omega)
      rw [← hek'] at hS
      rw [hek] at hgd
      rw [← ek] at hek'
      rw [hek'] at hS
      have her : e.r ∈ restB b m1 m2 m3 fi := by
        unfold restB
        simp only [List.mem_cons, List.mem_flatMap]
        exact .inr (.inr (.inr (.inr ⟨e, he, by simp⟩)))
      exact ⟨v, he', hv, ⟨B, ⟨m1, m2, m3, _, _, _, hS, hgd, fun y hy => by rw [updF_rest] at hy; exact hB y hy, hBs⟩, fun y hy => .inl hy⟩, f.weak (fun y _ e' => by rw [e']; exact hB _ her)⟩
    · rw [eA]
      obtain ⟨_, _, _, a4, a5, a6⟩ := g.spk e he
      refine sparse e.l eA hnc hnf (.inr ⟨e, by rw [← hek]; exact spGet_of nds he, rfl⟩) a4 a5 (by rw [← hek]; exact a6)
    · rw [eA]
      refine sparse [] eA hnc hnf (.inl ⟨?_, rfl⟩) (by decide) List.nodup_nil (fun x hx => by cases hx)
      cases hh : spGet sp k with
      | none => rfl
      | some o =>
        obtain ⟨ho, hk', _⟩ := spGet_some hh
        exact absurd (List.mem_map.2 ⟨o, ho, hk'⟩) hns
  · rw [if_neg hr]
    refine CallC_mk (Calls.mono (CallC_elim (Add_range hm c w hG.tab C1 C2 C4 hr)) fun e w' ⟨v, he, hv, f⟩ => ⟨v, he, hv, same f⟩)
end Go.Proofs.YtdhbpklmkibmbaaGreat
