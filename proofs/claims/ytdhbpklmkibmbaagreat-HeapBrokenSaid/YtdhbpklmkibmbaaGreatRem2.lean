/- Layer 11 (remset): the sets in memory; Add of a sparse source. -/
import Derived.Test.YtdhbpklmkibmbaaGreatRem1
import Derived.Test.YtdhbpklmkibmbaaGreatSame01
namespace Go.Proofs.YtdhbpklmkibmbaaGreat
open Go.Vc

structure SpE where
  k : Int × Int
  g : Nat
  cap : Nat
  l : List Int
structure FiE where
  k : Int × Int
  f : Nat
  r : Nat
  S : Nat → Bool
def spV (e : SpE) : Value := .slice (some ⟨e.g, 0, none⟩) e.l.length e.cap
def spM (sp : List SpE) : List ((Int × Int) × Value) := sp.map fun e => (e.k, spV e)
def fiM (fi : List FiE) : List ((Int × Int) × Value) := fi.map fun e => (e.k, .pointer (some ⟨e.f, 0, none⟩))
def coM (co : List (Int × Int)) : List ((Int × Int) × Value) := co.map fun k => (k, .bool true)
def restB (b m1 m2 m3 : Nat) (fi : List FiE) : List Nat := b :: m1 :: m2 :: m3 :: fi.flatMap fun e => [e.f, e.r]
def setsL (n per : Int) (m1 m2 m3 : Nat) : List Value := [.int .i64 n, .int .i64 per, .map (some m1), .map (some m2), .map (some m3)]
structure SetsG (w : World) (b m1 m2 m3 : Nat) (n per : Int) (sp : List SpE) (fi : List FiE) (co : List (Int × Int)) : Prop where
  tab : Blk w b t_remset_Sets (setsL n per m1 m2 m3)
  map1 : MapG pairV w m1 (spM sp)
  map2 : MapG pairV w m2 (fiM fi)
  map3 : MapG pairV w m3 (coM co)
  rows : ∀ e ∈ sp, Own w 0 (spV e) e.l
  sets : ∀ e ∈ fi, IsBits w e.f e.r per e.S
  gs : (sp.map (·.g)).Nodup
  rs : (restB b m1 m2 m3 fi).Nodup
  dj : ∀ e ∈ sp, e.g ∉ restB b m1 m2 m3 fi
theorem spV_lt {w : World} {e : SpE} (h : Own w 0 (spV e) e.l) : e.g < w.heap.size := h.lt e.g rfl
theorem SetsG.keep {w w' : World} {b m1 m2 m3 : Nat} {n per : Int} {sp : List SpE} {fi : List FiE} {co : List (Int × Int)} {F : Nat → Prop} (h : SetsG w b m1 m2 m3 n per sp fi co) (f : Fr F w w') (h1 : ∀ x ∈ restB b m1 m2 m3 fi, ¬ F x) (h2 : ∀ e ∈ sp, ¬ F e.g) : SetsG w' b m1 m2 m3 n per sp fi co := by
  have hf : ∀ e ∈ fi, e.f ∈ restB b m1 m2 m3 fi ∧ e.r ∈ restB b m1 m2 m3 fi := fun e he => by
    have : ∀ x ∈ [e.f, e.r], x ∈ restB b m1 m2 m3 fi := fun x hx => by
      unfold restB
      simp only [List.mem_cons, List.mem_flatMap]
      exact .inr (.inr (.inr (.inr ⟨e, he, by simpa using hx⟩)))
    exact ⟨this _ (by simp), this _ (by simp)⟩
  exact ⟨h.tab.keep f (h1 _ (by simp [restB])), h.map1.keep f (h1 _ (by simp [restB])), h.map2.keep f (h1 _ (by simp [restB])), h.map3.keep f (h1 _ (by simp [restB])),
    fun e he => own_keepV (h.rows e he) f (fun k hk => by injection hk with hk; rw [← hk]; exact h2 e he), fun e he => (h.sets e he).keep f (h1 _ (hf e he).1) (h1 _ (hf e he).2), h.gs, h.rs, h.dj⟩
def putSp (sp : List SpE) (e : SpE) : List SpE := match idxM (spM sp) e.k with | some i => sp.set i e | none => sp ++ [e]
theorem put_spM (sp : List SpE) (e : SpE) : spM (putSp sp e) = putM (spM sp) e.k (spV e) := by
  unfold putSp putM
  cases idxM (spM sp) e.k with
  | none => simp [spM]
  | some i => simp [spM, List.map_set]
theorem mem_putSp {sp : List SpE} {e x : SpE} (h : x ∈ putSp sp e) : x = e ∨ x ∈ sp := by
  unfold putSp at h
  split at h
  · rcases List.mem_or_eq_of_mem_set h with h | h
    · exact .inr h
    · exact .inl h
  · rcases List.mem_append.1 h with h | h
    · exact .inr h
    · left; simpa using h
/-- The row of a source that is sparse, or none. -/
def spGet (sp : List SpE) (k : Int × Int) : Option SpE := match idxM (spM sp) k with | some i => sp[i]? | none => none
theorem spGet_some {sp : List SpE} {k : Int × Int} {e : SpE} (h : spGet sp k = some e) : e ∈ sp ∧ e.k = k ∧ getM (spM sp) k = some (spV e) := by
  unfold spGet at h
  split at h
  · rename_i i hi
    obtain ⟨v, h1, h2⟩ := idx_some hi
    have : (spM sp)[i]? = some (e.k, spV e) := by unfold spM; rw [List.getElem?_map, h]; rfl
    rw [this] at h1
    injection h1 with h1
    injection h1 with a b
    exact ⟨List.mem_of_getElem? h, a, by rw [h2, b]⟩
  · cases h
theorem spGet_none {sp : List SpE} {k : Int × Int} (h : spGet sp k = none) : getM (spM sp) k = none ∧ idxM (spM sp) k = none := by
  unfold spGet at h
  split at h
  · rename_i i hi
    obtain ⟨v, h1, h2⟩ := idx_some hi
    unfold spM at h1
    rw [List.getElem?_map, h] at h1
    cases h1
  · rename_i hi
    exact ⟨(idx_none hi).1, hi⟩
theorem SetsG.rest_lt {w : World} {b m1 m2 m3 : Nat} {n per : Int} {sp : List SpE} {fi : List FiE} {co : List (Int × Int)} (h : SetsG w b m1 m2 m3 n per sp fi co) : ∀ x ∈ restB b m1 m2 m3 fi, x < w.heap.size := by
  intro x hx
  unfold restB at hx
  simp only [List.mem_cons, List.mem_flatMap] at hx
  rcases hx with rfl | rfl | rfl | rfl | ⟨y, hy, hx⟩
  · exact h.tab.lt
  · exact h.map1.lt
  · exact h.map2.lt
  · exact h.map3.lt
  · obtain ⟨ws, hw, _⟩ := h.sets y hy
    simp at hx
    rcases hx with rfl | rfl
    · exact hw.tab.lt
    · exact hw.row.lt
/-- A row is laid, or grows. -/
theorem SetsG.put {w w' : World} {b m1 m2 m3 : Nat} {n per : Int} {sp : List SpE} {fi : List FiE} {co : List (Int × Int)} (h : SetsG w b m1 m2 m3 n per sp fi co) {e : SpE} {F : Nat → Prop} (f : Fr F w w')
    (hF : ∀ x, F x → x = m1 ∨ (∃ o, spGet sp e.k = some o ∧ x = o.g)) (hM : MapG pairV w' m1 (putM (spM sp) e.k (spV e))) (hR : Own w' 0 (spV e) e.l) (hg : (∃ o, spGet sp e.k = some o ∧ e.g = o.g) ∨ w.heap.size ≤ e.g) :
    SetsG w' b m1 m2 m3 n per (putSp sp e) fi co := by
  have hrs := h.rest_lt
  have hne1 : ∀ x ∈ restB b m1 m2 m3 fi, F x → x = m1 := by
    intro x hx hf
    rcases hF x hf with e1 | ⟨o, ho, e1⟩
    · exact e1
    · exact absurd (by rw [← e1]; exact hx) (h.dj o (spGet_some ho).1)
  have hnd := h.rs
  unfold restB at hnd
  simp only [List.nodup_cons, List.mem_cons, not_or] at hnd
  obtain ⟨⟨n1, n2, n3, n4⟩, ⟨n5, n6, n7⟩, ⟨n8, n9⟩, n10, n11⟩ := hnd
  have hfi : ∀ y ∈ fi, y.f ≠ m1 ∧ y.r ≠ m1 ∧ y.f ∈ restB b m1 m2 m3 fi ∧ y.r ∈ restB b m1 m2 m3 fi := by
    intro y hy
    refine ⟨fun e => n7 (List.mem_flatMap.2 ⟨y, hy, by simp [e]⟩), fun e => n7 (List.mem_flatMap.2 ⟨y, hy, by simp [e]⟩), ?_, ?_⟩
    · unfold restB; simp only [List.mem_cons, List.mem_flatMap]; exact .inr (.inr (.inr (.inr ⟨y, hy, by simp⟩)))
    · unfold restB; simp only [List.mem_cons, List.mem_flatMap]; exact .inr (.inr (.inr (.inr ⟨y, hy, by simp⟩)))
  have mr : ∀ x ∈ [b, m1, m2, m3], x ∈ restB b m1 m2 m3 fi := fun x hx => by
    unfold restB
    simp at hx ⊢
    rcases hx with h | h | h | h <;> simp [h]
  refine ⟨h.tab.keep f (fun hf => n1 (hne1 b (mr _ (by simp)) hf)), by rw [put_spM]; exact hM, h.map2.keep f (fun hf => n5 (hne1 m2 (mr _ (by simp)) hf).symm), h.map3.keep f (fun hf => n6 (hne1 m3 (mr _ (by simp)) hf).symm), ?_, fun y hy => (h.sets y hy).keep f (fun hf => (hfi y hy).1 (hne1 _ (hfi y hy).2.2.1 hf)) (fun hf => (hfi y hy).2.1 (hne1 _ (hfi y hy).2.2.2 hf)), ?_, h.rs, ?_⟩
  · intro x hx
    obtain ⟨j, hj, ej⟩ := List.getElem_of_mem hx
    have keepx : x ∈ sp → (∀ o, spGet sp e.k = some o → x.g ≠ o.g) → Own w' 0 (spV x) x.l := fun hm hne => own_keepV (h.rows x hm) f (fun k hk hf => by
      injection hk with hk
      have hk : x.g = k := hk
      rcases hF k hf with e1 | ⟨o, ho, e1⟩
      · exact h.dj x hm (by rw [hk, e1]; exact mr _ (by simp))
      · exact hne o ho (hk.trans e1))
    unfold putSp at hj ej
    unfold spGet at keepx
    cases hi : idxM (spM sp) e.k with
    | none =>
      rw [hi] at keepx
      simp only [hi] at hj ej
      rw [List.getElem_append] at ej
      split at ej
      · exact keepx (by rw [← ej]; exact List.getElem_mem _) (fun o ho => by cases ho)
      · have : x = e := by rw [← ej]; simp
        rw [this]; exact hR
    | some q =>
      rw [hi] at keepx
      simp only [hi] at hj ej
      rw [List.getElem_set] at ej
      split at ej
      · rw [← ej]; exact hR
      · rename_i hq
        rw [List.length_set] at hj
        refine keepx (by rw [← ej]; exact List.getElem_mem _) (fun o ho => ?_)
        obtain ⟨hql, eo⟩ := List.getElem?_eq_some_iff.1 ho
        have hp := List.pairwise_iff_getElem.1 h.gs
        rw [← ej, ← eo]
        rcases Nat.lt_or_gt_of_ne hq with c | c
        · have := hp q j (by simpa using hql) (by simpa using hj) c
          simpa using this.symm
        · have := hp j q (by simpa using hj) (by simpa using hql) c
          simpa using this
  · have hfresh : w.heap.size ≤ e.g → e.g ∉ sp.map (·.g) := fun hle hm => by
      obtain ⟨x, hx, ex⟩ := List.mem_map.1 hm
      have := spV_lt (h.rows x hx)
      omega
    unfold putSp
    cases hi : idxM (spM sp) e.k with
    | none =>
      simp only [List.map_append, List.map_cons, List.map_nil]
      have hle : w.heap.size ≤ e.g := by
        rcases hg with ⟨o, ho, _⟩ | h
        · unfold spGet at ho; rw [hi] at ho; cases ho
        · exact h
      exact List.nodup_append.2 ⟨h.gs, by simp, fun a ha b' hb' e' => by simp at hb'; exact hfresh hle (by rw [← hb', ← e']; exact ha)⟩
    | some q =>
      simp only [List.map_set]
      rcases hg with ⟨o, ho, eg⟩ | hle
      · unfold spGet at ho
        rw [hi] at ho
        have : (sp.map (·.g)).set q e.g = sp.map (·.g) := by
          apply List.ext_getElem?
          intro j
          rw [List.getElem?_set]
          by_cases hj : q = j
          · subst hj
            have ho : sp[q]? = some o := ho
            rw [if_pos rfl, List.getElem?_map, ho, eg]
            split
            · rfl
            · rename_i hh; exact absurd (by simpa using (List.getElem?_eq_some_iff.1 ho).1) hh
          · rw [if_neg hj]
        rw [this]; exact h.gs
      · refine List.pairwise_iff_getElem.2 fun i j hi' hj' hij => ?_
        rw [List.length_set] at hi' hj'
        have hp := List.pairwise_iff_getElem.1 h.gs i j hi' hj' hij
        rw [List.getElem_set, List.getElem_set]
        have m1' := List.getElem_mem hi'
        have m2' := List.getElem_mem hj'
        split
        · split
          · omega
          · intro e'; exact hfresh hle (by rw [e']; exact m2')
        · split
          · intro e'; exact hfresh hle (by rw [← e']; exact m1')
          · exact hp
  · intro x hx
    rcases mem_putSp hx with rfl | hx
    · rcases hg with ⟨o, ho, eg⟩ | hle
      · rw [eg]; exact h.dj o (spGet_some ho).1
      · intro hm; have := hrs _ hm; omega
    · exact h.dj x hx
theorem keyP : KeyOk Pr t_remset_pair pairV := pair_key (fun a b => by kernel_rfl)
end Go.Proofs.YtdhbpklmkibmbaaGreat
