/- A graph's order and shape, in plain Lean: no program in sight. -/
import Derived.Test.YtdhbpklmkibmbaaGreatVcI
namespace Go.Proofs.YtdhbpklmkibmbaaGreat
open Go.Vc

/-- References are come to. -/
def meet1 (O : List Int) (r : Int) : List Int := if r = 0 ∨ r ∈ O then O else O ++ [r]
def meetL (O l : List Int) : List Int := l.foldl meet1 O
def meetS (O : List Int) (ls : List (List Int)) : List Int := ls.foldl meetL O
/-- A number: 1 and the place. -/
def num (O : List Int) (r : Int) : Int := if r = 0 then 0 else ((O.idxOf r : Nat) : Int) + 1
abbrev GObj := List Int × List Int
def bfsF (g : Int → GObj) : Nat → Nat → List Int → List Int
  | 0, _, O => O
  | n + 1, i, O => match O[i]? with
    | some r => bfsF g n (i + 1) (meetL O (g r).1)
    | none => O
def rowOut (O l : List Int) : List Int := (l.length : Int) :: l.map (num O)
def objOut (O : List Int) (x : GObj) : List Int := (x.1.length : Int) :: (x.2.length : Int) :: (x.1.map (num O) ++ x.2)
def shapeO (g : Int → GObj) (ss : List (List Int)) (O : List Int) : List Int := ss.flatMap (rowOut O) ++ O.flatMap fun r => objOut O (g r)
def orderN (g : Int → GObj) (ss : List (List Int)) (n : Nat) : List Int := bfsF g n 0 (meetS [] ss)
theorem meet1_pre (O : List Int) (r : Int) : O <+: meet1 O r := by
  unfold meet1
  split
  · exact List.prefix_refl _
  · exact List.prefix_append _ _
theorem meetL_pre : ∀ (l O : List Int), O <+: meetL O l := by
  intro l
  induction l with
  | nil => intro O; exact List.prefix_refl _
  | cons r l ih => intro O; exact (meet1_pre O r).trans (ih _)
theorem meetS_pre : ∀ (ls : List (List Int)) (O : List Int), O <+: meetS O ls := by
  intro ls
  induction ls with
  | nil => intro O; exact List.prefix_refl _
  | cons r l ih => intro O; exact (meetL_pre r O).trans (ih _)
theorem bfsF_pre (g : Int → GObj) : ∀ (n i : Nat) (O : List Int), O <+: bfsF g n i O := by
  intro n
  induction n with
  | zero => intro i O; exact List.prefix_refl _
  | succ n ih =>
    intro i O
    unfold bfsF
    split
    · exact (meetL_pre _ O).trans (ih _ _)
    · exact List.prefix_refl _
theorem meet1_mem {O : List Int} {r x : Int} : x ∈ meet1 O r ↔ x ∈ O ∨ (x = r ∧ r ≠ 0) := by
  unfold meet1
  split
  · rename_i h
    constructor
    · exact .inl
    · rintro (h1 | ⟨rfl, h2⟩)
      · exact h1
      · rcases h with h | h
        · exact absurd h h2
        · exact h
  · rename_i h
    rw [not_or] at h
    rw [List.mem_append, List.mem_singleton]
    constructor
    · rintro (h1 | h1)
      · exact .inl h1
      · exact .inr ⟨h1, h.1⟩
    · rintro (h1 | ⟨h1, _⟩)
      · exact .inl h1
      · exact .inr h1
theorem meetL_mem : ∀ {l O : List Int} {x : Int}, x ∈ meetL O l ↔ x ∈ O ∨ (x ∈ l ∧ x ≠ 0) := by
  intro l
  induction l with
  | nil => intro O x; simp [meetL]
  | cons r l ih =>
    intro O x
    show x ∈ meetL (meet1 O r) l ↔ _
    rw [ih, meet1_mem, List.mem_cons]
    constructor
    · rintro ((h | ⟨rfl, h⟩) | ⟨h1, h2⟩)
      · exact .inl h
      · exact .inr ⟨.inl rfl, h⟩
      · exact .inr ⟨.inr h1, h2⟩
    · rintro (h | ⟨rfl | h1, h2⟩)
      · exact .inl (.inl h)
      · exact .inl (.inr ⟨rfl, h2⟩)
      · exact .inr ⟨h1, h2⟩
theorem meetS_mem : ∀ {ls : List (List Int)} {O : List Int} {x : Int}, x ∈ meetS O ls ↔ x ∈ O ∨ (∃ l ∈ ls, x ∈ l) ∧ x ≠ 0 := by
  intro ls
  induction ls with
  | nil => intro O x; simp [meetS]
  | cons r l ih =>
    intro O x
    show x ∈ meetS (meetL O r) l ↔ _
    rw [ih, meetL_mem]
    constructor
    · rintro ((h | ⟨h1, h2⟩) | ⟨⟨m, hm, h1⟩, h2⟩)
      · exact .inl h
      · exact .inr ⟨⟨r, List.mem_cons_self, h1⟩, h2⟩
      · exact .inr ⟨⟨m, List.mem_cons_of_mem _ hm, h1⟩, h2⟩
    · rintro (h | ⟨⟨m, hm, h1⟩, h2⟩)
      · exact .inl (.inl h)
      · rcases List.mem_cons.1 hm with e | e
        · subst e; exact .inl (.inr ⟨h1, h2⟩)
        · exact .inr ⟨⟨m, e, h1⟩, h2⟩
theorem meet1_nodup {O : List Int} {r : Int} (h : O.Nodup) : (meet1 O r).Nodup := by
  unfold meet1
  split
  · exact h
  · rename_i h1
    rw [not_or] at h1
    exact List.nodup_append.2 ⟨h, by simp, fun a ha b hb e => by
      have := List.mem_singleton.1 hb
      subst this; subst e
      exact h1.2 ha⟩
theorem meetL_nodup : ∀ {l O : List Int}, O.Nodup → (meetL O l).Nodup := by
  intro l
  induction l with
  | nil => intro O h; exact h
  | cons r l ih => intro O h; exact ih (meet1_nodup h)
theorem meetS_nodup : ∀ {ls : List (List Int)} {O : List Int}, O.Nodup → (meetS O ls).Nodup := by
  intro ls
  induction ls with
  | nil => intro O h; exact h
  | cons r l ih => intro O h; exact ih (meetL_nodup h)
theorem bfsF_nodup (g : Int → GObj) : ∀ {n i : Nat} {O : List Int}, O.Nodup → (bfsF g n i O).Nodup := by
  intro n
  induction n with
  | zero => intro i O h; exact h
  | succ n ih =>
    intro i O h
    unfold bfsF
    split
    · exact ih (meetL_nodup h)
    · exact h
/-- What is closed holds of all that is come to. -/
theorem bfsF_all (g : Int → GObj) {R : Int → Prop} (hR : ∀ r, R r → ∀ q ∈ (g r).1, q = 0 ∨ R q) : ∀ {n i : Nat} {O : List Int}, (∀ r ∈ O, R r) → ∀ r ∈ bfsF g n i O, R r := by
  intro n
  induction n with
  | zero => intro i O h; exact h
  | succ n ih =>
    intro i O h
    unfold bfsF
    split
    · rename_i r hr
      refine ih fun x hx => ?_
      rcases meetL_mem.1 hx with h1 | ⟨h1, h2⟩
      · exact h x h1
      · rcases hR r (h r (List.mem_of_getElem? hr)) x h1 with h3 | h3
        · exact absurd h3 h2
        · exact h3
    · exact h
theorem meetS_all {R : Int → Prop} {ss : List (List Int)} (hS : ∀ l ∈ ss, ∀ r ∈ l, r = 0 ∨ R r) : ∀ r ∈ meetS [] ss, R r := by
  intro r hr
  rcases meetS_mem.1 hr with h | ⟨⟨l, hl, h1⟩, h2⟩
  · cases h
  · exact (hS l hl r h1).resolve_left h2
theorem order_all (g : Int → GObj) {R : Int → Prop} {ss : List (List Int)} (hS : ∀ l ∈ ss, ∀ r ∈ l, r = 0 ∨ R r) (hR : ∀ r, R r → ∀ q ∈ (g r).1, q = 0 ∨ R q) (n : Nat) : ∀ r ∈ orderN g ss n, R r :=
  bfsF_all g hR (meetS_all hS)
theorem order_nodup (g : Int → GObj) (ss : List (List Int)) (n : Nat) : (orderN g ss n).Nodup := bfsF_nodup g (meetS_nodup List.nodup_nil)
/-- More steps than needed change nothing. -/
theorem bfsF_more (g : Int → GObj) (k : Nat) : ∀ (n i : Nat) (O : List Int), (bfsF g n i O).length ≤ i + n → bfsF g (n + k) i O = bfsF g n i O := by
  intro n
  induction n with
  | zero =>
    intro i O h
    have h : O.length ≤ i := h
    rw [Nat.zero_add]
    cases k with
    | zero => rfl
    | succ k =>
      show (match O[i]? with | some r => bfsF g k (i + 1) (meetL O (g r).1) | none => O) = O
      rw [List.getElem?_eq_none h]
  | succ n ih =>
    intro i O h
    rw [show n + 1 + k = (n + k) + 1 by omega]
    unfold bfsF at h ⊢
    split
    · rename_i r hr
      rw [hr] at h
      exact ih _ _ (by have h : (bfsF g n (i + 1) (meetL O (g r).1)).length ≤ i + (n + 1) := h; omega)
    · rfl
theorem sub_len {α : Type} [DecidableEq α] : ∀ {O K : List α}, O.Nodup → (∀ r ∈ O, r ∈ K) → O.length ≤ K.length := by
  intro O
  induction O with
  | nil => intro K _ _; exact Nat.zero_le _
  | cons x O ih =>
    intro K nd h
    rw [List.nodup_cons] at nd
    have hx := h x List.mem_cons_self
    have h1 := ih (K := K.erase x) nd.2 (fun r hr => (List.mem_erase_of_ne (fun e => nd.1 (by rw [← e]; exact hr))).2 (h r (List.mem_cons_of_mem _ hr)))
    rw [List.length_erase_of_mem hx] at h1
    have : 0 < K.length := List.length_pos_of_mem hx
    rw [List.length_cons]; omega
theorem flatMap_congr' {α β : Type} {f g : α → List β} : ∀ {l : List α}, (∀ x ∈ l, f x = g x) → l.flatMap f = l.flatMap g := by
  intro l
  induction l with
  | nil => intro _; rfl
  | cons x l ih => intro h; rw [List.flatMap_cons, List.flatMap_cons, h x List.mem_cons_self, ih fun y hy => h y (List.mem_cons_of_mem _ hy)]
theorem idxOf_app {r : Int} : ∀ {O t : List Int}, r ∈ O → (O ++ t).idxOf r = O.idxOf r := by
  intro O
  induction O with
  | nil => intro t h; cases h
  | cons x O ih =>
    intro t h
    rw [List.cons_append, List.idxOf_cons, List.idxOf_cons]
    by_cases c : x = r
    · subst c; simp
    · have : r ∈ O := by
        rcases List.mem_cons.1 h with e | e
        · exact absurd e.symm c
        · exact e
      simp only [beq_iff_eq, c, cond_eq_ite, if_false]
      rw [ih this]
/-- All that is come to has its references in the order. -/
theorem bfsF_closed (g : Int → GObj) : ∀ {n i : Nat} {O : List Int}, (bfsF g n i O).length ≤ i + n → (∀ j, j < i → ∀ r, O[j]? = some r → ∀ q ∈ (g r).1, q = 0 ∨ q ∈ O) → ∀ r ∈ bfsF g n i O, ∀ q ∈ (g r).1, q = 0 ∨ q ∈ bfsF g n i O := by
  intro n
  induction n with
  | zero =>
    intro i O h hp r hr
    obtain ⟨j, hj, e⟩ := List.getElem_of_mem hr
    have h : O.length ≤ i := h
    have hj : j < O.length := hj
    exact hp j (by omega) r (by rw [List.getElem?_eq_getElem hj]; exact congrArg some e)
  | succ n ih =>
    intro i O h hp
    unfold bfsF at h ⊢
    split
    · rename_i r hr
      rw [hr] at h
      have hil := (List.getElem?_eq_some_iff.1 hr).1
      refine ih (by have h : (bfsF g n (i + 1) (meetL O (g r).1)).length ≤ i + (n + 1) := h; omega) fun j hj x hx q hq => ?_
      by_cases c : j = i
      · subst c
        have : x = r := by
          have hpre := meetL_pre (g r).1 O
          obtain ⟨t, ht⟩ := hpre
          rw [← ht, List.getElem?_append_left hil, hr] at hx
          injection hx with hx
          exact hx.symm
        subst this
        by_cases c0 : q = 0
        · exact .inl c0
        · exact .inr (meetL_mem.2 (.inr ⟨hq, c0⟩))
      · have hx' : O[j]? = some x := by
          obtain ⟨t, ht⟩ := meetL_pre (g r).1 O
          rw [← ht, List.getElem?_append_left (by omega)] at hx
          exact hx
        rcases hp j (by omega) x hx' q hq with h1 | h1
        · exact .inl h1
        · exact .inr (meetL_mem.2 (.inl h1))
    · rename_i hn
      intro r hr
      obtain ⟨j, hj, e⟩ := List.getElem_of_mem hr
      have hl := List.getElem?_eq_none_iff.1 hn
      exact hp j (by omega) r (by rw [List.getElem?_eq_getElem hj]; exact congrArg some e)
/-- Numbers stay as the order grows. -/
theorem num_pre {O O' : List Int} (h : O <+: O') {r : Int} (hr : r = 0 ∨ r ∈ O) : num O' r = num O r := by
  unfold num
  split
  · rfl
  · rename_i h0
    have hr := hr.resolve_left h0
    obtain ⟨t, rfl⟩ := h
    rw [idxOf_app hr]
section
variable {φ : Int → Int} {R : Int → Prop} {g g' : Int → GObj}
/-- Two graphs that are alike: their orders and shapes are the same. -/
structure Alike (φ : Int → Int) (R : Int → Prop) (g g' : Int → GObj) : Prop where
  inj : ∀ a b, R a → R b → φ a = φ b → a = b
  z : φ 0 = 0
  nz : ∀ a, R a → a ≠ 0 ∧ φ a ≠ 0
  refs : ∀ a, R a → (g' (φ a)).1 = (g a).1.map φ
  data : ∀ a, R a → (g' (φ a)).2 = (g a).2
  clo : ∀ r, R r → ∀ q ∈ (g r).1, q = 0 ∨ R q
theorem Alike.mem (h : Alike φ R g g') {O : List Int} (hO : ∀ r ∈ O, R r) {r : Int} (hr : R r) : φ r ∈ O.map φ ↔ r ∈ O := by
  rw [List.mem_map]
  constructor
  · rintro ⟨x, hx, e⟩
    rw [← h.inj x r (hO x hx) hr e]; exact hx
  · intro hx; exact ⟨r, hx, rfl⟩
theorem Alike.meet1 (h : Alike φ R g g') {O : List Int} (hO : ∀ r ∈ O, R r) {r : Int} (hr : r = 0 ∨ R r) : Go.Proofs.YtdhbpklmkibmbaaGreat.meet1 (O.map φ) (φ r) = (Go.Proofs.YtdhbpklmkibmbaaGreat.meet1 O r).map φ := by
  unfold Go.Proofs.YtdhbpklmkibmbaaGreat.meet1
  rcases hr with rfl | hr
  · rw [if_pos (.inl h.z), if_pos (.inl rfl)]
  · have h1 := h.nz r hr
    have h2 := h.mem hO hr
    by_cases c : r ∈ O
    · rw [if_pos (.inr (h2.2 c)), if_pos (.inr c)]
    · rw [if_neg (not_or.2 ⟨h1.2, fun e => c (h2.1 e)⟩), if_neg (not_or.2 ⟨h1.1, c⟩), List.map_append]; rfl
theorem meetL_all {O l : List Int} (hO : ∀ r ∈ O, R r) (hl : ∀ r ∈ l, r = 0 ∨ R r) : ∀ r ∈ meetL O l, R r := fun r hr => by
  rcases meetL_mem.1 hr with h1 | ⟨h1, h2⟩
  · exact hO r h1
  · exact (hl r h1).resolve_left h2
theorem Alike.meetL (h : Alike φ R g g') : ∀ {l O : List Int}, (∀ r ∈ O, R r) → (∀ r ∈ l, r = 0 ∨ R r) → Go.Proofs.YtdhbpklmkibmbaaGreat.meetL (O.map φ) (l.map φ) = (Go.Proofs.YtdhbpklmkibmbaaGreat.meetL O l).map φ := by
  intro l
  induction l with
  | nil => intro O _ _; rfl
  | cons r l ih =>
    intro O hO hl
    show Go.Proofs.YtdhbpklmkibmbaaGreat.meetL (Go.Proofs.YtdhbpklmkibmbaaGreat.meet1 (O.map φ) (φ r)) (l.map φ) = _
    rw [h.meet1 hO (hl r List.mem_cons_self)]
    refine ih (fun x hx => ?_) (fun x hx => hl x (List.mem_cons_of_mem _ hx))
    rcases meet1_mem.1 hx with h1 | ⟨rfl, h2⟩
    · exact hO x h1
    · exact (hl x List.mem_cons_self).resolve_left h2
theorem Alike.meetS (h : Alike φ R g g') : ∀ {ls : List (List Int)} {O : List Int}, (∀ r ∈ O, R r) → (∀ l ∈ ls, ∀ r ∈ l, r = 0 ∨ R r) → Go.Proofs.YtdhbpklmkibmbaaGreat.meetS (O.map φ) (ls.map (·.map φ)) = (Go.Proofs.YtdhbpklmkibmbaaGreat.meetS O ls).map φ := by
  intro ls
  induction ls with
  | nil => intro O _ _; rfl
  | cons l ls ih =>
    intro O hO hl
    show Go.Proofs.YtdhbpklmkibmbaaGreat.meetS (Go.Proofs.YtdhbpklmkibmbaaGreat.meetL (O.map φ) (l.map φ)) (ls.map (·.map φ)) = _
    rw [h.meetL hO (hl l List.mem_cons_self)]
    exact ih (meetL_all hO (hl l List.mem_cons_self)) (fun x hx => hl x (List.mem_cons_of_mem _ hx))
theorem Alike.bfs (h : Alike φ R g g') : ∀ {n i : Nat} {O : List Int}, (∀ r ∈ O, R r) → bfsF g' n i (O.map φ) = (bfsF g n i O).map φ := by
  intro n
  induction n with
  | zero => intro i O _; rfl
  | succ n ih =>
    intro i O hO
    unfold bfsF
    rw [List.getElem?_map]
    cases hr : O[i]? with
    | none => rfl
    | some r =>
      have hR := hO r (List.mem_of_getElem? hr)
      show bfsF g' n (i + 1) (Go.Proofs.YtdhbpklmkibmbaaGreat.meetL (O.map φ) (g' (φ r)).1) = (bfsF g n (i + 1) (Go.Proofs.YtdhbpklmkibmbaaGreat.meetL O (g r).1)).map φ
      rw [h.refs r hR, h.meetL hO (h.clo r hR)]
      exact ih (meetL_all hO (h.clo r hR))
theorem Alike.num (h : Alike φ R g g') {O : List Int} (hO : ∀ r ∈ O, R r) {r : Int} (hr : r = 0 ∨ R r) : Go.Proofs.YtdhbpklmkibmbaaGreat.num (O.map φ) (φ r) = Go.Proofs.YtdhbpklmkibmbaaGreat.num O r := by
  unfold Go.Proofs.YtdhbpklmkibmbaaGreat.num
  rcases hr with rfl | hr
  · rw [if_pos h.z, if_pos rfl]
  · rw [if_neg (h.nz r hr).2, if_neg (h.nz r hr).1]
    congr 2
    induction O with
    | nil => rfl
    | cons x O ih =>
      rw [List.map_cons, List.idxOf_cons, List.idxOf_cons]
      have hx := hO x List.mem_cons_self
      by_cases c : x = r
      · subst c; simp
      · have : ¬ φ x = φ r := fun e => c (h.inj x r hx hr e)
        simp only [beq_iff_eq, c, this, cond_eq_ite, if_false]
        rw [ih fun y hy => hO y (List.mem_cons_of_mem _ hy)]
theorem Alike.shape (h : Alike φ R g g') {ss : List (List Int)} (hS : ∀ l ∈ ss, ∀ r ∈ l, r = 0 ∨ R r) (n : Nat) :
    orderN g' (ss.map (·.map φ)) n = (orderN g ss n).map φ ∧ shapeO g' (ss.map (·.map φ)) (orderN g' (ss.map (·.map φ)) n) = shapeO g ss (orderN g ss n) := by
  have h0 : orderN g' (ss.map (·.map φ)) n = (orderN g ss n).map φ := by
    unfold orderN
    have := h.meetS (ls := ss) (O := []) (fun r hr => by cases hr) hS
    rw [List.map_nil] at this
    rw [this]
    exact h.bfs (meetS_all hS)
  refine ⟨h0, ?_⟩
  have hO := order_all g hS h.clo n
  rw [h0]
  unfold shapeO
  rw [List.flatMap_map, List.flatMap_map]
  have row : ∀ l : List Int, (∀ r ∈ l, r = 0 ∨ R r) → (l.map φ).map (Go.Proofs.YtdhbpklmkibmbaaGreat.num ((orderN g ss n).map φ)) = l.map (Go.Proofs.YtdhbpklmkibmbaaGreat.num (orderN g ss n)) := fun l hl => by
    rw [List.map_map]
    exact List.map_congr_left fun r hr => h.num hO (hl r hr)
  congr 1
  · refine flatMap_congr' fun l hl => ?_
    unfold rowOut
    rw [List.length_map, row l (hS l hl)]
  · refine flatMap_congr' fun r hr => ?_
    unfold objOut
    rw [h.refs r (hO r hr), h.data r (hO r hr), List.length_map, row _ (h.clo r (hO r hr))]
end
end Go.Proofs.YtdhbpklmkibmbaaGreat
