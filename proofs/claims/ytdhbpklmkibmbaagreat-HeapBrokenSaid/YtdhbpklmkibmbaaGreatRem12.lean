/- Layer 11 (remset): what the sets say; Add. -/
import Derived.Test.YtdhbpklmkibmbaaGreatRem11
namespace Go.Proofs.YtdhbpklmkibmbaaGreat
open Go.Vc

inductive Src where
  | sp (l : List Int)
  | fi (S : Nat → Bool)
  | co
abbrev Abs := Int × Int → Src
def updA (A : Abs) (k : Int × Int) (s : Src) : Abs := fun k' => if k' = k then s else A k'
def Src.isFi : Src → Bool
  | .fi _ => true
  | _ => false
def szA (per : Int) : Src → Int
  | .fi S => ((cnt (within S 0 per) per.toNat : Nat) : Int)
  | _ => 0
def rng (n : Int) : List Int := (List.range n.toNat).map fun (i : Nat) => (i : Int)
theorem rng_mem {n s : Int} : s ∈ rng n ↔ 0 ≤ s ∧ s < n := by
  unfold rng
  rw [List.mem_map]
  constructor
  · rintro ⟨i, hi, rfl⟩
    have := List.mem_range.1 hi
    omega
  · rintro ⟨h0, h1⟩
    exact ⟨s.toNat, List.mem_range.2 (by omega), by omega⟩
theorem rng_sorted (n : Int) : (rng n).Pairwise (· < ·) := by
  unfold rng
  refine List.pairwise_map.2 ?_
  exact List.pairwise_lt_range.imp fun h => by omega
def finesA (n : Int) (A : Abs) (hm : Int) : List Int := (rng n).filter fun s => (A (hm, s)).isFi
def coarsenA (n per : Int) (A : Abs) (hm : Int) : Abs := match finesA n A hm with
  | [] => A
  | x :: L => if L.length + 1 ≤ 4 then A else updA A (hm, maxP (fun s => szA per (A (hm, s))) x L) .co
def addA (n per : Int) (A : Abs) (hm c : Int) : Bool × Int × Abs :=
  if 0 ≤ hm ∧ hm < n ∧ 0 ≤ c ∧ c < n * per then
    if hm = c / per then (false, 3, A) else match A (hm, c / per) with
    | .co => (false, 0, A)
    | .fi S => (!S (c % per).toNat, 0, updA A (hm, c / per) (.fi (bput S (c % per).toNat)))
    | .sp l => if c ∈ l then (false, 0, A) else if l.length < 4 then (true, 0, updA A (hm, c / per) (.sp (l ++ [c]))) else (true, 0, coarsenA n per (updA A (hm, c / per) (.fi (setOf per (l ++ [c])))) hm)
  else (false, 2, A)
def okK (n : Int) (k : Int × Int) : Prop := 0 ≤ k.1 ∧ k.1 < n ∧ 0 ≤ k.2 ∧ k.2 < n ∧ k.1 ≠ k.2
structure GoodG (n per : Int) (A : Abs) (sp : List SpE) (fi : List FiE) (co : List (Int × Int)) : Prop where
  spk : ∀ e ∈ sp, okK n e.k ∧ A e.k = .sp e.l ∧ e.l ≠ [] ∧ e.l.length ≤ 4 ∧ e.l.Nodup ∧ ∀ c ∈ e.l, 0 ≤ c ∧ c < n * per ∧ c / per = e.k.2
  fik : ∀ e ∈ fi, okK n e.k ∧ A e.k = .fi e.S ∧ ∀ j, e.S j = true → (j : Int) < per
  cok : ∀ k ∈ co, okK n k ∧ A k = .co
  non : ∀ k, k ∉ sp.map (·.k) → k ∉ fi.map (·.k) → k ∉ co → A k = .sp []
  five : ∀ hm, (homeK hm fi).length ≤ 4
structure RCfg (n per : Int) : Prop where
  p1 : 1 ≤ per
  n1 : 1 ≤ n
  n6 : n ≤ 65536
  np : n * per ≤ 4194304
def RS (w : World) (b : Nat) (B : Nat → Prop) (n per : Int) (A : Abs) : Prop :=
  ∃ m1 m2 m3 sp fi co, SetsG w b m1 m2 m3 n per sp fi co ∧ GoodG n per A sp fi co ∧ (∀ x ∈ restB b m1 m2 m3 fi, B x) ∧ ∀ e ∈ sp, B e.g
theorem RS.keep {w w' : World} {b : Nat} {B : Nat → Prop} {n per : Int} {A : Abs} {F : Nat → Prop} (h : RS w b B n per A) (f : Fr F w w') (hF : ∀ x, B x → ¬ F x) : RS w' b B n per A := by
  obtain ⟨m1, m2, m3, sp, fi, co, h1, h2, h3, h4⟩ := h
  exact ⟨m1, m2, m3, sp, fi, co, h1.keep f (fun x hx => hF x (h3 x hx)) (fun e he => hF _ (h4 e he)), h2, h3, h4⟩
theorem spGet_of {sp : List SpE} {e : SpE} (nd : (sp.map (·.k)).Nodup) (he : e ∈ sp) : spGet sp e.k = some e := by
  have hg : getM (spM sp) e.k = some (spV e) := (getM_some (by rw [spM_keys]; exact nd)).2 (List.mem_map.2 ⟨e, he, rfl⟩)
  cases h : spGet sp e.k with
  | none => rw [(spGet_none h).1] at hg; cases hg
  | some o =>
    obtain ⟨ho, hk, _⟩ := spGet_some h
    obtain ⟨i, hi, ei⟩ := List.getElem_of_mem ho
    obtain ⟨q, hq, eq⟩ := List.getElem_of_mem he
    by_cases c : i = q
    · subst c; rw [← ei, eq]
    · exfalso
      have hp := List.pairwise_iff_getElem.1 nd
      rcases Nat.lt_or_gt_of_ne c with c | c
      · exact hp i q (by simpa using hi) (by simpa using hq) c (by simp [ei, eq, hk])
      · exact hp q i (by simpa using hq) (by simpa using hi) c (by simp [ei, eq, hk])
theorem idx_not {κ : Type} [DecidableEq κ] {m : List (κ × Value)} {k : κ} (h : k ∉ m.map (·.1)) : idxM m k = none := by
  cases hh : idxM m k with
  | none => rfl
  | some i =>
    obtain ⟨v, h1, h2⟩ := idx_some hh
    rw [getM_none.2 h] at h2; cases h2
theorem co_not {co : List (Int × Int)} {k : Int × Int} (h : k ∉ co) : getM (coM co) k = none := getM_none.2 (by rw [coM_keys]; exact h)
theorem fi_not {fi : List FiE} {k : Int × Int} (h : k ∉ fi.map (·.k)) : getM (fiM fi) k = none := getM_none.2 (by rw [fiM_keys]; exact h)
/-- What a source is, in the sets' own words. -/
theorem GoodG.src {n per : Int} {A : Abs} {sp : List SpE} {fi : List FiE} {co : List (Int × Int)} (h : GoodG n per A sp fi co) (k : Int × Int) :
    (k ∈ co ∧ A k = .co) ∨ (∃ e ∈ fi, e.k = k ∧ k ∉ co ∧ A k = .fi e.S) ∨ ((∃ e ∈ sp, e.k = k ∧ A k = .sp e.l) ∧ k ∉ co ∧ k ∉ fi.map (·.k)) ∨ (k ∉ sp.map (·.k) ∧ k ∉ co ∧ k ∉ fi.map (·.k) ∧ A k = .sp []) := by
  by_cases h1 : k ∈ co
  · exact .inl ⟨h1, (h.cok k h1).2⟩
  by_cases h2 : k ∈ fi.map (·.k)
  · obtain ⟨e, he, rfl⟩ := List.mem_map.1 h2
    exact .inr (.inl ⟨e, he, rfl, h1, (h.fik e he).2.1⟩)
  by_cases h3 : k ∈ sp.map (·.k)
  · obtain ⟨e, he, rfl⟩ := List.mem_map.1 h3
    exact .inr (.inr (.inl ⟨⟨e, he, rfl, (h.spk e he).2.1⟩, h1, h2⟩))
  · exact .inr (.inr (.inr ⟨h3, h1, h2, h.non k h3 h2 h1⟩))
theorem GoodG.fc {n per : Int} {A : Abs} {sp : List SpE} {fi : List FiE} {co : List (Int × Int)} (h : GoodG n per A sp fi co) : ∀ e ∈ fi, e.k ∉ co := fun e he hc => by
  have h1 := (h.fik e he).2.1
  rw [(h.cok _ hc).2] at h1; cases h1
theorem GoodG.fs {n per : Int} {A : Abs} {sp : List SpE} {fi : List FiE} {co : List (Int × Int)} (h : GoodG n per A sp fi co) : ∀ e ∈ fi, e.k ∉ sp.map (·.k) := fun e he hc => by
  have h1 := (h.fik e he).2.1
  obtain ⟨x, hx, ex⟩ := List.mem_map.1 hc
  rw [← ex, (h.spk _ hx).2.1] at h1; cases h1
theorem GoodG.cs {n per : Int} {A : Abs} {sp : List SpE} {fi : List FiE} {co : List (Int × Int)} (h : GoodG n per A sp fi co) : ∀ k ∈ co, k ∉ sp.map (·.k) := fun k hk hc => by
  have h1 := (h.cok k hk).2
  obtain ⟨x, hx, ex⟩ := List.mem_map.1 hc
  rw [← ex, (h.spk _ hx).2.1] at h1; cases h1
theorem putSp_ne {sp : List SpE} {e x : SpE} (nd : (sp.map (·.k)).Nodup) (h : x ∈ putSp sp e) : x = e ∨ (x ∈ sp ∧ x.k ≠ e.k) := by
  have hk : ((putSp sp e).map (·.k)).Nodup := by
    rw [← spM_keys, put_spM]
    unfold putM
    cases hi : idxM (spM sp) e.k with
    | none =>
      simp only
      rw [List.map_append]
      refine List.nodup_append.2 ⟨by rw [spM_keys]; exact nd, by simp, fun a ha b' hb' e' => ?_⟩
      simp at hb'
      exact (idx_none hi).2 (by rw [← hb', ← e']; exact ha)
    | some i =>
      simp only
      rw [List.map_set]
      obtain ⟨v, h1, _⟩ := idx_some hi
      have : ((spM sp).map (·.1)).set i e.k = (spM sp).map (·.1) := by
        apply List.ext_getElem?
        intro j
        rw [List.getElem?_set]
        by_cases hj : i = j
        · subst hj
          rw [if_pos rfl, List.getElem?_map, h1]
          split
          · rfl
          · rename_i hh; exact absurd (by simpa using (List.getElem?_eq_some_iff.1 h1).1) hh
        · rw [if_neg hj]
      rw [this, spM_keys]; exact nd
  have he : e ∈ putSp sp e := by
    unfold putSp
    cases hi : idxM (spM sp) e.k with
    | none => simp
    | some i =>
      obtain ⟨v, h1, _⟩ := idx_some hi
      have : i < sp.length := by have := (List.getElem?_eq_some_iff.1 h1).1; simpa [spM] using this
      exact List.mem_set this e
  rcases mem_putSp h with h1 | h1
  · exact .inl h1
  · by_cases c : x = e
    · exact .inl c
    · right
      refine ⟨h1, fun ek => c ?_⟩
      obtain ⟨i, hi, ei⟩ := List.getElem_of_mem h
      obtain ⟨q, hq, eq⟩ := List.getElem_of_mem he
      by_cases c : i = q
      · subst c; rw [← ei, eq]
      · exfalso
        have hp := List.pairwise_iff_getElem.1 hk
        rcases Nat.lt_or_gt_of_ne c with c | c
        · exact hp i q (by simpa using hi) (by simpa using hq) c (by simp [ei, eq, ek])
        · exact hp q i (by simpa using hq) (by simpa using hi) c (by simp [ei, eq, ek])
theorem putSp_key {sp : List SpE} {e : SpE} {k : Int × Int} (h : k ∉ (putSp sp e).map (·.k)) : k ≠ e.k ∧ k ∉ sp.map (·.k) := by
  have hh : k ∉ (spM (putSp sp e)).map (·.1) := by rw [spM_keys]; exact h
  rw [put_spM] at hh
  unfold putM at hh
  cases hi : idxM (spM sp) e.k with
  | none =>
    rw [hi] at hh
    simp only [List.map_append, List.mem_append, not_or, spM_keys] at hh
    exact ⟨fun c => hh.2 (by simp [c]), hh.1⟩
  | some i =>
    rw [hi] at hh
    simp only [List.map_set] at hh
    obtain ⟨v, h1, _⟩ := idx_some hi
    have : ((spM sp).map (·.1)).set i e.k = (spM sp).map (·.1) := by
      apply List.ext_getElem?
      intro j
      rw [List.getElem?_set]
      by_cases hj : i = j
      · subst hj
        rw [if_pos rfl, List.getElem?_map, h1]
        split
        · rfl
        · rename_i hh; exact absurd (by simpa using (List.getElem?_eq_some_iff.1 h1).1) hh
      · rw [if_neg hj]
    rw [this] at hh
    exact ⟨fun c => hh (List.mem_map.2 ⟨_, List.mem_of_getElem? h1, c.symm⟩), by rw [← spM_keys]; exact hh⟩
theorem homeK_eq (hm : Int) (fi : List FiE) : homeK hm fi = (fi.map (·.k)).filter fun k => decide (k.1 = hm) := by
  induction fi with
  | nil => rfl
  | cons e fi ih =>
    unfold homeK at ih ⊢
    rw [List.flatMap_cons, List.map_cons, List.filter_cons, ih]
    by_cases c : e.k.1 = hm
    · rw [if_pos c, if_pos (by simp [c])]; rfl
    · rw [if_neg c, if_neg (by simp [c])]; rfl
theorem updA_same (A : Abs) (k : Int × Int) (s : Src) : updA A k s k = s := if_pos rfl
theorem updA_ne {A : Abs} {k k' : Int × Int} {s : Src} (h : k' ≠ k) : updA A k s k' = A k' := if_neg h
theorem isFi_iff {n per : Int} {A : Abs} {sp : List SpE} {fi : List FiE} {co : List (Int × Int)} (h : GoodG n per A sp fi co) (k : Int × Int) : (A k).isFi = true ↔ k ∈ fi.map (·.k) := by
  rcases h.src k with ⟨hc, e⟩ | ⟨x, hx, rfl, _, e⟩ | ⟨⟨x, hx, rfl, e⟩, _, hf⟩ | ⟨_, _, hf, e⟩
  · rw [e]
    refine ⟨fun h => (by cases h), fun hk => ?_⟩
    obtain ⟨x, hx, rfl⟩ := List.mem_map.1 hk
    exact absurd hc (h.fc x hx)
  · rw [e]; exact ⟨fun _ => List.mem_map.2 ⟨x, hx, rfl⟩, fun _ => rfl⟩
  · rw [e]; exact ⟨fun h => (by cases h), fun hk => absurd hk hf⟩
  · rw [e]; exact ⟨fun h => (by cases h), fun hk => absurd hk hf⟩
/-- The fine sources of a home, in their order. -/
theorem fines_perm {n : Int} {A : Abs} {fi : List FiE} (nd : (fi.map (·.k)).Nodup) (hk : ∀ e ∈ fi, okK n e.k) (hA : ∀ k, (A k).isFi = true ↔ k ∈ fi.map (·.k)) (hm : Int) : ((homeK hm fi).map (·.2)).Perm (finesA n A hm) := by
  refine (List.perm_ext_iff_of_nodup ?_ ?_).2 fun s => ?_
  · rw [homeK_eq]
    refine List.pairwise_map.2 ?_
    refine ((nd.filter _).imp_of_mem fun {a b} ha hb hab e => hab ?_)
    have h1 := (List.mem_filter.1 ha).2
    have h2 := (List.mem_filter.1 hb).2
    simp at h1 h2
    exact Prod.ext (h1.trans h2.symm) e
  · exact ((rng_sorted n).imp fun h => by omega).filter _
  · unfold finesA
    rw [List.mem_filter, rng_mem, hA, homeK_eq, List.mem_map]
    constructor
    · rintro ⟨k, hk1, rfl⟩
      obtain ⟨h1, h2⟩ := List.mem_filter.1 hk1
      have h2 : k.1 = hm := by simpa using h2
      obtain ⟨e, he, rfl⟩ := List.mem_map.1 h1
      obtain ⟨_, _, a, b, _⟩ := hk e he
      exact ⟨⟨a, b⟩, by rw [← h2]; exact h1⟩
    · rintro ⟨_, h1⟩
      exact ⟨(hm, s), List.mem_filter.2 ⟨h1, by simp⟩, rfl⟩
theorem maxP_map {hm : Int} {sz : Int × Int → Int} {sz' : Int → Int} : ∀ (L : List (Int × Int)) (x : Int × Int), (∀ y ∈ x :: L, y.1 = hm ∧ sz y = sz' y.2) → maxP sz x L = (hm, maxP sz' x.2 (L.map (·.2))) := by
  intro L
  induction L with
  | nil =>
    intro x h
    show x = (hm, x.2)
    exact Prod.ext (h x (by simp)).1 rfl
  | cons y L ih =>
    intro x h
    have hx := (h x (by simp)).2
    have hy := (h y (by simp)).2
    show maxP sz (if sz y - sz x > 0 then y else x) L = (hm, maxP sz' (if sz' y.2 - sz' x.2 > 0 then y.2 else x.2) (L.map (·.2)))
    rw [hx, hy]
    by_cases c : sz' y.2 - sz' x.2 > 0
    · rw [if_pos c, if_pos c]
      exact ih y (fun z hz => h z (by simp at hz ⊢; rcases hz with rfl | hz <;> simp [*]))
    · rw [if_neg c, if_neg c]
      exact ih x (fun z hz => h z (by simp at hz ⊢; rcases hz with rfl | hz <;> simp [*]))
end Go.Proofs.YtdhbpklmkibmbaaGreat
