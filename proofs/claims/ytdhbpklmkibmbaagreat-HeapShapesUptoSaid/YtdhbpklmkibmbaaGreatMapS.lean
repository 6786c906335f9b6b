/- Maps: what they hold, whatever their keys are. -/
import Derived.Test.YtdhbpklmkibmbaaGreatVcR
import Derived.Maps.RangeRun
import Derived.MapKept
namespace Go.Vc
open Go.ChangeMaps (setBlock)

variable {P : Program} {κ : Type}
/-- A map in memory. -/
def MapG (kv : κ → Value) (w : World) (b : Nat) (m : List (κ × Value)) : Prop :=
  ∃ es clock, MapAt w b es clock ∧ es.toList.map (fun e => (e.key, e.val)) = m.map (fun x => (kv x.1, x.2)) ∧ (m.map (·.1)).Nodup ∧ (∀ e ∈ es.toList, e.born < clock) ∧ (es.toList.map (·.born)).Nodup
section
variable {kv : κ → Value} {w w' : World} {b : Nat} {m : List (κ × Value)}
theorem MapG.lt (h : MapG kv w b m) : b < w.heap.size := by obtain ⟨_, _, h, _⟩ := h; exact h.lt
theorem MapG.keep {F : Nat → Prop} (h : MapG kv w b m) (f : Fr F w w') (hn : ¬ F b) : MapG kv w' b m := by
  obtain ⟨es, c, h, r⟩ := h
  exact ⟨es, c, h.keep f hn, r⟩
theorem MapG.nodup (h : MapG kv w b m) : (m.map (·.1)).Nodup := by obtain ⟨_, _, _, _, h, _⟩ := h; exact h
theorem MapG.new (h : MapAt w b #[] 0) : MapG kv w b [] := ⟨#[], 0, h, rfl, List.nodup_nil, fun e he => by simp at he, List.nodup_nil⟩
theorem keys_of {es : List MapEntry} (h : es.map (fun e => (e.key, e.val)) = m.map (fun x => (kv x.1, x.2))) : es.map (·.key) = m.map (fun x => kv x.1) := by
  have := congrArg (List.map Prod.fst) h
  rw [List.map_map, List.map_map] at this
  exact this
theorem entry_at {es : List MapEntry} (h : es.map (fun e => (e.key, e.val)) = m.map (fun x => (kv x.1, x.2))) {i : Nat} {x : κ × Value} (hi : m[i]? = some x) : ∃ e, es[i]? = some e ∧ e.key = kv x.1 ∧ e.val = x.2 := by
  have := congrArg (fun l => l[i]?) h
  simp only [List.getElem?_map, hi] at this
  cases he : es[i]? with
  | none => rw [he] at this; cases this
  | some e =>
    rw [he] at this
    injection this with this
    injection this with h1 h2
    exact ⟨e, rfl, h1, h2⟩
theorem keys_nodup {es : List MapEntry} (h : es.map (fun e => (e.key, e.val)) = m.map (fun x => (kv x.1, x.2))) (inj : ∀ a b : κ, kv a = kv b → a = b) (nd : (m.map (·.1)).Nodup) : (es.map (·.key)).Nodup := by
  rw [keys_of h]
  have : (m.map fun x => kv x.1) = (m.map (·.1)).map kv := by rw [List.map_map]; rfl
  rw [this]
  exact List.pairwise_map.2 (nd.imp fun hab e => hab (inj _ _ e))
variable {T : Tab}
/-- A map is gone through: `left` is still to come; `cur`: the entry that has just come. -/
def IterG (kv : κ → Value) (w : World) (b r : Nat) (m left : List (κ × Value)) (cur : Option (κ × Value)) : Prop :=
  r ≠ b ∧ ∃ es clock since seen c0, MapAt w b es clock ∧ es.toList.map (fun e => (e.key, e.val)) = m.map (fun x => (kv x.1, x.2)) ∧ (m.map (·.1)).Nodup ∧ (∀ e ∈ es.toList, e.born < since) ∧ (es.toList.map (·.born)).Nodup ∧ since ≤ clock ∧
    w.heap[r]? = some (.mapIter (some b) since seen c0) ∧ since ≤ c0 ∧ (es.toList.filter fun e => !seen.contains e.born).map (fun e => (e.key, e.val)) = left.map (fun x => (kv x.1, x.2)) ∧ left.Sublist m ∧
    ∀ x, cur = some x → ∃ (s0 : Array Nat) (e : MapEntry), seen = s0.push e.born ∧ c0 = clock ∧ e ∈ es.toList ∧ e.key = kv x.1 ∧ e.val = x.2
theorem IterG.map {b r : Nat} {m left : List (κ × Value)} {cur : Option (κ × Value)} (h : IterG kv w b r m left cur) : MapG kv w b m := by
  obtain ⟨_, es, clock, since, seen, c0, h1, h2, h3, h4, h5, h6, _⟩ := h
  exact ⟨es, clock, h1, h2, h3, fun e he => Nat.lt_of_lt_of_le (h4 e he) h6, h5⟩
theorem IterG.keep {b r : Nat} {m left : List (κ × Value)} {cur : Option (κ × Value)} {F : Nat → Prop} (h : IterG kv w b r m left cur) (f : Fr F w w') (h1 : ¬ F b) (h2 : ¬ F r) : IterG kv w' b r m left cur := by
  obtain ⟨hne, es, clock, since, seen, c0, a1, a2, a3, a4, a5, a6, a7, a8⟩ := h
  refine ⟨hne, es, clock, since, seen, c0, a1.keep f h1, a2, a3, a4, a5, a6, (f.blk r ?_ h2).trans a7, a8⟩
  rcases Nat.lt_or_ge r w.heap.size with h' | h'
  · exact h'
  · rw [Array.getElem?_eq_none h'] at a7; cases a7
theorem IterG.lt {b r : Nat} {m left : List (κ × Value)} {cur : Option (κ × Value)} (h : IterG kv w b r m left cur) : r < w.heap.size := by
  obtain ⟨hne, es, clock, since, seen, c0, a1, a2, a3, a4, a5, a6, a7, a8⟩ := h
  rcases Nat.lt_or_ge r w.heap.size with h' | h'
  · exact h'
  · rw [Array.getElem?_eq_none h'] at a7; cases a7
/-- A map begins to be gone through. -/
theorem RangeC (hT : T.Ok P) {t tk te : Nat} (ht : T.d t = .map tk te) (h : MapG kv w b m) {Q : Value → World → Prop}
    (hk : ∀ r w', r = w.heap.size → IterG kv w' b r m m none → Fr No w w' → w'.heap.size = r + 1 → Q (.pointer (some ⟨r, 0, none⟩)) w') : RunC P (Instr.range t (.map (some b))) w Q := by
  have hlt := h.lt
  obtain ⟨es, c, hM, hes, hnd, hbn, hbd⟩ := h
  have hu := und_map hT ht
  have hn : (w.alloc (.mapIter (some b) c #[] c)).heap[w.heap.size]? = some (.mapIter (some b) c #[] c) := by show (w.heap.push _)[w.heap.size]? = _; simp
  have f : Fr No w (w.alloc (.mapIter (some b) c #[] c)) := ⟨rfl, rfl, rfl, by simp, fun k hk _ => RowKit.Below.heap_alloc w _ k hk⟩
  refine RunC_intro (w' := w.alloc (.mapIter (some b) c #[] c)) ?_ (hk w.heap.size _ rfl ⟨by omega, es, c, c, #[], c, hM.keep f id, hes, hnd, hbn, hbd, Nat.le_refl _, hn, Nat.le_refl _, ?_, List.Sublist.refl _, fun x e => by cases e⟩ f (by simp))
  · simp [Instr.range, run_underlying hu, MapKept.run_getObj_map hM, Result.andThen]
  · rw [← hes]
    congr 1
    rw [List.filter_eq_self]
    intro e _
    simp
theorem sub_entry {es : List MapEntry} {m : List (κ × Value)} (h : es.map (fun e => (e.key, e.val)) = m.map (fun x => (kv x.1, x.2))) {e : MapEntry} (he : e ∈ es) : ∃ x ∈ m, e.key = kv x.1 ∧ e.val = x.2 := by
  have : (e.key, e.val) ∈ m.map (fun x => (kv x.1, x.2)) := by rw [← h]; exact List.mem_map.2 ⟨e, he, rfl⟩
  obtain ⟨x, hx, ex⟩ := List.mem_map.1 this
  injection ex with e1 e2
  exact ⟨x, hx, e1.symm, e2.symm⟩
/-- The entry that has just come, read. -/
theorem EntryC {b r : Nat} {left : List (κ × Value)} {x : κ × Value} (h : IterG kv w b r m left (some x)) {Q : Value → World → Prop} (hk : Q (.tuple #[kv x.1, x.2]) w) : RunC P (Instr.entry (.pointer (some ⟨r, 0, none⟩))) w Q := by
  obtain ⟨hne, es, clock, since, seen, c0, a1, a2, a3, a4, a5, a6, a7, a8, a9, a10, a11⟩ := h
  obtain ⟨s0, e, rfl, rfl, he, ek, ev⟩ := a11 x rfl
  refine RunC_intro (run_entry_at w r b since s0 es c0 e a7 a1 he a5) ?_
  rw [ek, ev]; exact hk
end
section
variable [DecidableEq κ]
/-- Where a key stands. -/
def idxM (m : List (κ × Value)) (k : κ) : Option Nat := match m with
  | [] => none
  | x :: m => if x.1 = k then some 0 else (idxM m k).map (· + 1)
def getM (m : List (κ × Value)) (k : κ) : Option Value := match m with
  | [] => none
  | x :: m => if x.1 = k then some x.2 else getM m k
def putM (m : List (κ × Value)) (k : κ) (v : Value) : List (κ × Value) := match idxM m k with | some i => m.set i (k, v) | none => m ++ [(k, v)]
def delM (m : List (κ × Value)) (k : κ) : List (κ × Value) := m.filter fun x => !decide (x.1 = k)
theorem idx_some : ∀ {m : List (κ × Value)} {k : κ} {i : Nat}, idxM m k = some i → ∃ v, m[i]? = some (k, v) ∧ getM m k = some v := by
  intro m
  induction m with
  | nil => intro k i h; cases h
  | cons x m ih =>
    intro k i h
    unfold idxM at h
    unfold getM
    by_cases e : x.1 = k
    · rw [if_pos e] at h ⊢
      injection h with h
      subst h
      exact ⟨x.2, by rw [← e]; rfl, rfl⟩
    · rw [if_neg e] at h ⊢
      cases hi : idxM m k with
      | none => rw [hi] at h; cases h
      | some j =>
        rw [hi] at h
        injection h with h
        subst h
        obtain ⟨v, h1, h2⟩ := ih hi
        exact ⟨v, h1, h2⟩
theorem idx_none : ∀ {m : List (κ × Value)} {k : κ}, idxM m k = none → getM m k = none ∧ k ∉ m.map (·.1) := by
  intro m
  induction m with
  | nil => intro k _; exact ⟨rfl, by simp⟩
  | cons x m ih =>
    intro k h
    unfold idxM at h
    unfold getM
    by_cases e : x.1 = k
    · rw [if_pos e] at h; cases h
    · rw [if_neg e] at h ⊢
      cases hi : idxM m k with
      | none =>
        obtain ⟨h1, h2⟩ := ih hi
        refine ⟨h1, ?_⟩
        rw [List.map_cons, List.mem_cons]
        rintro (h | h)
        · exact e h.symm
        · exact h2 h
      | some j => rw [hi] at h; cases h
theorem getM_none {m : List (κ × Value)} {k : κ} : getM m k = none ↔ k ∉ m.map (·.1) := by
  cases h : idxM m k with
  | none => exact ⟨fun _ => (idx_none h).2, fun _ => (idx_none h).1⟩
  | some i =>
    obtain ⟨v, h1, h2⟩ := idx_some h
    rw [h2]
    exact ⟨fun e => (by cases e), fun e => absurd (List.mem_map.2 ⟨_, List.mem_of_getElem? h1, rfl⟩) e⟩
theorem getM_some {m : List (κ × Value)} (nd : (m.map (·.1)).Nodup) {k : κ} {v : Value} : getM m k = some v ↔ (k, v) ∈ m := by
  cases h : idxM m k with
  | none =>
    obtain ⟨h1, h2⟩ := idx_none h
    rw [h1]
    exact ⟨fun e => (by cases e), fun e => absurd (List.mem_map.2 ⟨_, e, rfl⟩) h2⟩
  | some i =>
    obtain ⟨u, h1, h2⟩ := idx_some h
    rw [h2]
    constructor
    · intro e; injection e with e; rw [← e]; exact List.mem_of_getElem? h1
    · intro e
      obtain ⟨j, hj, ej⟩ := List.getElem_of_mem e
      obtain ⟨hi, ei⟩ := List.getElem?_eq_some_iff.1 h1
      by_cases c : i = j
      · subst c; rw [ei] at ej; injection ej with _ ej; rw [ej]
      · exfalso
        have hn := List.pairwise_iff_getElem.1 nd
        rcases Nat.lt_or_gt_of_ne c with c | c
        · exact hn i j (by simpa using hi) (by simpa using hj) c (by simp [ei, ej])
        · exact hn j i (by simpa using hj) (by simpa using hi) c (by simp [ei, ej])
/-- What is asked of a type of keys. -/
structure KeyOk (P : Program) (t : TypeId) (kv : κ → Value) : Prop where
  chk : ∀ e k w, (Instr.checkKey e 10000 t (kv k)).run P w = .ok () w
  fnd : ∀ k (es : List MapEntry) (m : List (κ × Value)) w, es.map (·.key) = m.map (fun x => kv x.1) → (Instr.findKey t (kv k) es).run P w = .ok ((idxM m k).bind fun i => es[i]?.map fun e => (i, e.val)) w
  bits : ∀ k, Instr.sameBits 10000 (kv k) (kv k) = true
variable {kv : κ → Value} {w w' : World} {b : Nat} {m : List (κ × Value)} {T : Tab}
/-- A look at a key. -/
theorem LookC (hT : T.Ok P) {t tk te : Nat} {z : Value} (ht : T.d t = .map tk te) (K : KeyOk P tk kv) (hz : ∀ w, (zeroValue te).run P w = .ok z w) (h : MapG kv w b m) (k : κ) (ok : Bool) {Q : Value → World → Prop}
    (hk : Q (if ok then .tuple #[(getM m k).getD z, .bool (getM m k).isSome] else (getM m k).getD z) w) : RunC P (Instr.lookup t (.map (some b)) (kv k) ok) w Q := by
  obtain ⟨es, c, hM, hes, _⟩ := h
  refine RunC_intro ?_ hk
  have hu := und_map hT ht
  have hf := K.fnd k es.toList m w (keys_of hes)
  cases hi : idxM m k with
  | none =>
    rw [hi] at hf
    rw [(idx_none hi).1]
    simp [Instr.lookup, run_underlying hu, MapKept.run_getObj_map hM, K.chk, hf, hz, Result.andThen]
  | some i =>
    obtain ⟨v, h1, h2⟩ := idx_some hi
    obtain ⟨e, he, _, hv⟩ := entry_at hes h1
    rw [hi] at hf
    have hf : (Instr.findKey tk (kv k) es.toList).run P w = .ok (some (i, v)) w := by
      rw [hf]
      show Result.ok (es.toList[i]?.map fun e => (i, e.val)) w = _
      rw [he]
      show Result.ok (some (i, e.val)) w = _
      rw [hv]
    rw [h2]
    simp [Instr.lookup, run_underlying hu, MapKept.run_getObj_map hM, K.chk, hf, Result.andThen]
theorem set_fr {o : Obj} : Fr (· = b) w { w with heap := w.heap.setIfInBounds b o } := by
  refine ⟨rfl, rfl, rfl, by simp, fun k hk hn => ?_⟩
  show (w.heap.setIfInBounds b o)[k]? = _
  rw [Array.getElem?_setIfInBounds, if_neg (fun e => hn e.symm)]
theorem set_at {es : Array MapEntry} {c : Nat} (hb : b < w.heap.size) : MapAt { w with heap := w.heap.setIfInBounds b (.map es c) } b es c := by
  show (w.heap.setIfInBounds b (.map es c))[b]? = _
  rw [Array.getElem?_setIfInBounds, if_pos rfl, if_pos hb]
/-- A key is laid. -/
theorem UpdC (hT : T.Ok P) {t tk te : Nat} (ht : T.d t = .map tk te) (K : KeyOk P tk kv) (h : MapG kv w b m) (k : κ) (v : Value) {Q : Unit → World → Prop}
    (hk : ∀ w', MapG kv w' b (putM m k v) → Fr (· = b) w w' → w'.heap.size = w.heap.size → Q () w') : RunC P (Instr.mapUpdate t (.map (some b)) (kv k) v) w Q := by
  have hlt := h.lt
  obtain ⟨es, c, hM, hes, hnd, hbn, hbd⟩ := h
  have hu := und_map hT ht
  have hf := K.fnd k es.toList m w (keys_of hes)
  cases hi : idxM m k with
  | none =>
    rw [hi] at hf
    refine RunC_intro (w' := { w with heap := w.heap.setIfInBounds b (.map (es.push { key := kv k, val := v, born := c }) (c + 1)) }) ?_ (hk _ ⟨_, _, set_at hlt, ?_, ?_, ?_, ?_⟩ set_fr (by simp))
    · simp [Instr.mapUpdate, run_underlying hu, MapKept.run_getObj_map hM, K.chk, hf, Result.andThen, MapKept.run_setObj_map _ hM]
    · unfold putM; rw [hi]; simp [hes]
    · unfold putM; rw [hi]
      rw [List.map_append]
      refine List.nodup_append.2 ⟨hnd, by simp, fun a ha b' hb' e => ?_⟩
      simp at hb'
      exact (idx_none hi).2 (by rw [← hb', ← e]; exact ha)
    · intro e he
      simp only [Array.toList_push, List.mem_append, List.mem_singleton] at he
      rcases he with he | he
      · have := hbn e he; omega
      · subst he; show c < c + 1; omega
    · simp only [Array.toList_push, List.map_append, List.map_cons, List.map_nil]
      refine List.nodup_append.2 ⟨hbd, by simp, fun a ha b' hb' e => ?_⟩
      simp at hb'
      obtain ⟨x, hx, ex⟩ := List.mem_map.1 ha
      have := hbn x hx
      omega
  | some i =>
    obtain ⟨u, h1, h2⟩ := idx_some hi
    obtain ⟨e, he, hek, hv⟩ := entry_at hes h1
    rw [hi] at hf
    have hf : (Instr.findKey tk (kv k) es.toList).run P w = .ok (some (i, u)) w := by
      rw [hf]
      show Result.ok (es.toList[i]?.map fun e => (i, e.val)) w = _
      rw [he]
      show Result.ok (some (i, e.val)) w = _
      rw [hv]
    have heA : es[i]? = some e := by rw [← Array.getElem?_toList]; exact he
    have hil : i < es.toList.length := (List.getElem?_eq_some_iff.1 he).1
    have hstay : ∀ w, (Instr.keyThatStays (((es[i]?).map (·.key)).getD (kv k)) (kv k)).run P w = .ok (kv k) w := by
      intro w
      rw [heA]
      show (Instr.keyThatStays e.key (kv k)).run P w = _
      rw [hek]
      unfold Instr.keyThatStays
      rw [K.bits k]; rfl
    have hmod : (es.modify i fun e => { e with key := kv k, val := v }).toList = es.toList.set i { e with key := kv k, val := v } := by
      apply List.ext_getElem?
      intro j
      rw [Array.getElem?_toList, Array.getElem?_modify, List.getElem?_set]
      by_cases hj : i = j
      · subst hj
        rw [if_pos rfl, if_pos rfl, if_pos hil, heA]; rfl
      · rw [if_neg hj, if_neg hj, Array.getElem?_toList]
    refine RunC_intro (w' := { w with heap := w.heap.setIfInBounds b (.map (es.modify i fun e => { e with key := kv k, val := v }) c) }) ?_ (hk _ ⟨_, _, set_at hlt, ?_, ?_, ?_, ?_⟩ set_fr (by simp))
    · simp [Instr.mapUpdate, run_underlying hu, MapKept.run_getObj_map hM, K.chk, hf, Result.andThen, hstay, MapKept.run_setObj_map _ hM]
    · rw [hmod]
      unfold putM; rw [hi]
      simp only [List.map_set, hes]
    · unfold putM; rw [hi]
      simp only [List.map_set]
      have : (m.map (·.1)).set i k = m.map (·.1) := by
        apply List.ext_getElem?
        intro j
        rw [List.getElem?_set]
        by_cases hj : i = j
        · subst hj
          rw [if_pos rfl, List.getElem?_map, h1]
          split
          · rfl
          · rename_i hh; exact absurd (by simpa using (List.getElem?_eq_some_iff.1 h1).1) hh
        · rw [if_neg hj]
      rw [this]; exact hnd
    · rw [hmod]
      intro x hx
      rcases List.mem_or_eq_of_mem_set hx with hx | hx
      · exact hbn x hx
      · subst hx; exact hbn e (List.mem_of_getElem? he)
    · rw [hmod]
      simp only [List.map_set]
      have : (es.toList.map (·.born)).set i e.born = es.toList.map (·.born) := by
        apply List.ext_getElem?
        intro j
        rw [List.getElem?_set]
        by_cases hj : i = j
        · subst hj
          rw [if_pos rfl, List.getElem?_map, he]
          split
          · rfl
          · rename_i hh; exact absurd (by simpa using hil) hh
        · rw [if_neg hj]
      rw [this]; exact hbd
theorem del_none {k : κ} (h : idxM m k = none) : delM m k = m := by
  unfold delM
  rw [List.filter_eq_self]
  intro x hx
  have := (idx_none h).2
  simp only [Bool.not_eq_true', decide_eq_false_iff_not]
  intro e
  exact this (List.mem_map.2 ⟨x, hx, e⟩)
theorem del_some : ∀ {m : List (κ × Value)} {k : κ} {i : Nat}, (m.map (·.1)).Nodup → idxM m k = some i → delM m k = m.eraseIdx i := by
  intro m
  induction m with
  | nil => intro k i _ h; cases h
  | cons x m ih =>
    intro k i nd h
    rw [List.map_cons, List.nodup_cons] at nd
    unfold idxM at h
    by_cases e : x.1 = k
    · rw [if_pos e] at h
      injection h with h
      subst h
      unfold delM
      rw [List.filter_cons, if_neg (by simp [e]), List.eraseIdx_zero]
      show m.filter _ = m
      rw [List.filter_eq_self]
      intro y hy
      simp only [Bool.not_eq_true', decide_eq_false_iff_not]
      intro e2
      exact nd.1 (List.mem_map.2 ⟨y, hy, e2.trans e.symm⟩)
    · rw [if_neg e] at h
      cases hi : idxM m k with
      | none => rw [hi] at h; cases h
      | some j =>
        rw [hi] at h
        injection h with h
        subst h
        unfold delM
        rw [List.filter_cons, if_pos (by simp [e]), List.eraseIdx_cons_succ]
        exact congrArg (x :: ·) (ih nd.2 hi)
/-- A key goes. -/
theorem DelC (hT : T.Ok P) {t tk te ty tk2 : Nat} (ht : T.d t = .map tk te) (K : KeyOk P tk kv) (h : MapG kv w b m) (k : κ) {Q : Value → World → Prop}
    (hk : ∀ w', MapG kv w' b (delM m k) → Fr (· = b) w w' → w'.heap.size = w.heap.size → Q (.tuple #[]) w') : RunC P (Builtin.delete_ #[t, tk2] ty #[.map (some b), kv k]) w Q := by
  have hlt := h.lt
  obtain ⟨es, c, hM, hes, hnd, hbn, hbd⟩ := h
  have hu := und_map hT ht
  have hf := K.fnd k es.toList m w (keys_of hes)
  cases hi : idxM m k with
  | none =>
    rw [hi] at hf
    refine RunC_intro (w' := { w with heap := w.heap.setIfInBounds b (.map es c) }) ?_ (hk _ ⟨_, _, set_at hlt, ?_, ?_, hbn, hbd⟩ set_fr (by simp))
    · simp [Builtin.delete_, run_underlying hu, MapKept.run_getObj_map hM, K.chk, hf, Result.andThen, MapKept.run_setObj_map _ hM]
    · rw [del_none hi]; exact hes
    · rw [del_none hi]; exact hnd
  | some i =>
    obtain ⟨u, h1, h2⟩ := idx_some hi
    obtain ⟨e, he, hek, hv⟩ := entry_at hes h1
    rw [hi] at hf
    have hf : (Instr.findKey tk (kv k) es.toList).run P w = .ok (some (i, u)) w := by
      rw [hf]
      show Result.ok (es.toList[i]?.map fun e => (i, e.val)) w = _
      rw [he]
      show Result.ok (some (i, e.val)) w = _
      rw [hv]
    have her : (es.eraseIdxIfInBounds i).toList = es.toList.eraseIdx i := by
      have hil : i < es.size := by simpa using (List.getElem?_eq_some_iff.1 he).1
      simp [Array.eraseIdxIfInBounds, hil]
    refine RunC_intro (w' := { w with heap := w.heap.setIfInBounds b (.map (es.eraseIdxIfInBounds i) c) }) ?_ (hk _ ⟨_, _, set_at hlt, ?_, ?_, ?_, ?_⟩ set_fr (by simp))
    · simp [Builtin.delete_, run_underlying hu, MapKept.run_getObj_map hM, K.chk, hf, Result.andThen, MapKept.run_setObj_map _ hM]
    · rw [her, del_some hnd hi, Go.ChangeMaps.map_eraseIdx, Go.ChangeMaps.map_eraseIdx, hes]
    · exact hnd.sublist (List.Sublist.map _ List.filter_sublist)
    · rw [her]; exact fun x hx => hbn x (List.eraseIdx_subset hx)
    · rw [her]; exact hbd.sublist (List.Sublist.map _ (List.eraseIdx_sublist _ _))
/-- Taken apart at one that stands there once. -/
theorem filter_split {es : List MapEntry} {m : List (κ × Value)} (h : es.map (fun e => (e.key, e.val)) = m.map (fun x => (kv x.1, x.2))) (inj : ∀ a b : κ, kv a = kv b → a = b) (nd : (m.map (·.1)).Nodup) (hb : (es.map (·.born)).Nodup) {e : MapEntry} (he : e ∈ es) {k : κ} (hk : e.key = kv k) :
    (es.filter fun x => !decide (x.born = e.born)).map (fun e => (e.key, e.val)) = (delM m k).map (fun x => (kv x.1, x.2)) := by
  induction es generalizing m with
  | nil => cases he
  | cons a es ih =>
    cases m with
    | nil => cases h
    | cons x m =>
      simp only [List.map_cons, List.cons.injEq, Prod.mk.injEq] at h
      obtain ⟨⟨h1, h2⟩, h3⟩ := h
      rw [List.map_cons, List.nodup_cons] at nd hb
      unfold delM
      by_cases c : a.born = e.born
      · have ea : a = e := by
          rcases List.mem_cons.1 he with h | h
          · exact h.symm
          · exact absurd (List.mem_map.2 ⟨e, h, c.symm⟩) hb.1
        subst ea
        have exk : x.1 = k := inj _ _ (h1.symm.trans hk)
        rw [List.filter_cons, if_neg (by simp), List.filter_cons, if_neg (by simp [exk])]
        have f1 : (es.filter fun y => !decide (y.born = a.born)) = es := by
          rw [List.filter_eq_self]
          intro y hy
          simp only [Bool.not_eq_true', decide_eq_false_iff_not]
          intro e2
          exact hb.1 (List.mem_map.2 ⟨y, hy, e2⟩)
        have f2 : (m.filter fun y => !decide (y.1 = k)) = m := by
          rw [List.filter_eq_self]
          intro y hy
          simp only [Bool.not_eq_true', decide_eq_false_iff_not]
          intro e2
          exact nd.1 (List.mem_map.2 ⟨y, hy, e2.trans exk.symm⟩)
        rw [f1, f2]; exact h3
      · have he' : e ∈ es := by
          rcases List.mem_cons.1 he with h | h
          · exact absurd (by rw [h]) c
          · exact h
        have exk : x.1 ≠ k := by
          intro e2
          obtain ⟨y, hy, e3, _⟩ := sub_entry h3 he'
          exact nd.1 (List.mem_map.2 ⟨y, hy, (inj _ _ (e3.symm.trans hk)).trans e2.symm⟩)
        rw [List.filter_cons, if_pos (by simp [c]), List.filter_cons, if_pos (by simp [exk]), List.map_cons, List.map_cons, h1, h2]
        congr 1
        exact ih h3 nd.2 hb.2 he'
/-- The next entry, whichever it is. -/
theorem NextC {b r ty : Nat} {left : List (κ × Value)} {cur : Option (κ × Value)} (inj : ∀ a b : κ, kv a = kv b → a = b) (h : IterG kv w b r m left cur) {Q : Value → World → Prop}
    (h0 : left = [] → Q (.tuple #[.bool false]) w)
    (h1 : ∀ x ∈ left, ∀ w', IterG kv w' b r m (delM left x.1) (some x) → Fr (· = r) w w' → w'.heap.size = w.heap.size → Q (.tuple #[.bool true, kv x.1, x.2]) w') : RunC P (Instr.next (.pointer (some ⟨r, 0, none⟩)) false ty) w Q := by
  have hrl := h.lt
  obtain ⟨hne, es, clock, since, seen, c0, a1, a2, a3, a4, a5, a6, a7, a8, a9, a10, _⟩ := h
  have hL : (leftOf es seen).toList = es.toList.filter fun e => !seen.contains e.born := by unfold leftOf; rw [Array.toList_filter]
  rcases run_next_at (P := P) w ty r b since c0 seen es clock a7 a1 a4 a8 with ⟨hz, hr⟩ | ⟨e, he, w1, hw1, hr⟩
  · refine RunC_intro hr (h0 ?_)
    have : (es.toList.filter fun e => !seen.contains e.born) = [] := by
      rw [← hL]; exact List.eq_nil_of_length_eq_zero (by simpa using hz)
    rw [this] at a9
    cases left with
    | nil => rfl
    | cons x l => cases a9
  · rw [hL] at he
    have hes : e ∈ es.toList := (List.mem_filter.1 he).1
    obtain ⟨x, hx, ek, ev⟩ := sub_entry a9 he
    have hnd : (left.map (·.1)).Nodup := a3.sublist (a10.map _)
    have hbl : ((es.toList.filter fun e => !seen.contains e.born).map (·.born)).Nodup := a5.sublist (List.filter_sublist.map _)
    have hsplit := filter_split a9 inj hnd hbl he ek
    have f1 : Fr (· = r) w1 (setBlock w1 r (.mapIter (some b) since (seen.push e.born) clock)) := by
      refine ⟨rfl, rfl, rfl, by simp [setBlock], fun k hk hn => ?_⟩
      show (w1.heap.setIfInBounds r _)[k]? = _
      rw [Array.getElem?_setIfInBounds, if_neg (fun e => hn e.symm)]
    have fw : Fr No w w1 := by rcases hw1 with rfl | rfl; exact Fr.refl _ _; exact Fr.drew w
    have sw : w1.heap.size = w.heap.size := by rcases hw1 with rfl | rfl <;> rfl
    have f2 := fw.noL f1
    have hr2 : r < w1.heap.size := by omega
    refine RunC_intro hr ?_
    rw [ek, ev]
    refine h1 x hx _ ⟨hne, es, clock, since, seen.push e.born, clock, a1.keep f2 (fun e => hne e.symm), a2, a3, a4, a5, a6, ?_, a6, ?_, List.filter_sublist.trans a10, fun y hy => ?_⟩ f2 (by simp [setBlock, sw])
    · show (w1.heap.setIfInBounds r _)[r]? = _
      rw [Array.getElem?_setIfInBounds, if_pos rfl, if_pos hr2]
    · rw [← hsplit, List.filter_filter]
      congr 1
      apply List.filter_congr
      intro y _
      simp only [Array.contains_push]
      rw [Bool.eq_iff_iff]
      simp
      constructor
      · rintro ⟨q1, q2⟩; exact ⟨q2, q1⟩
      · rintro ⟨q1, q2⟩; exact ⟨q2, q1⟩
    · injection hy with hy
      subst hy
      exact ⟨seen, e, rfl, rfl, hes, ek, ev⟩
theorem erase_filter {α : Type} {p : α → Bool} : ∀ {l : List α} {i : Nat} {a : α}, l[i]? = some a → p a = false → (l.eraseIdx i).filter p = l.filter p := by
  intro l
  induction l with
  | nil => intro i a h; cases h
  | cons x l ih =>
    intro i a h hp
    cases i with
    | zero =>
      simp only [List.getElem?_cons_zero, Option.some.injEq] at h
      subst h
      rw [List.eraseIdx_zero, List.filter_cons, if_neg (by simp [hp])]; rfl
    | succ i =>
      rw [List.eraseIdx_cons_succ, List.filter_cons, List.filter_cons, ih (by simpa using h) hp]
/-- The key that has just come goes. -/
theorem DelIterC (hT : T.Ok P) {t tk te ty tk2 r : Nat} (ht : T.d t = .map tk te) (K : KeyOk P tk kv) (inj : ∀ a b : κ, kv a = kv b → a = b) {left : List (κ × Value)} {x : κ × Value} (h : IterG kv w b r m left (some x)) (hx : x.1 ∉ left.map (·.1)) {Q : Value → World → Prop}
    (hk : ∀ w', IterG kv w' b r (delM m x.1) left none → Fr (· = b) w w' → w'.heap.size = w.heap.size → Q (.tuple #[]) w') : RunC P (Builtin.delete_ #[t, tk2] ty #[.map (some b), kv x.1]) w Q := by
  have hlt := h.map.lt
  have hrl := h.lt
  obtain ⟨hne, es, clock, since, seen, c0, hM, hes, hnd, hbn, hbd, a6, a7, a8, a9, a10, a11⟩ := h
  obtain ⟨s0, e, e1, e2, he, ek, ev⟩ := a11 x rfl
  have hu := und_map hT ht
  have hf := K.fnd x.1 es.toList m w (keys_of hes)
  cases hi : idxM m x.1 with
  | none =>
    obtain ⟨y, hy, ey, _⟩ := sub_entry hes he
    exact absurd (List.mem_map.2 ⟨y, hy, (inj _ _ (ek.symm.trans ey)).symm⟩) (idx_none hi).2
  | some i =>
    obtain ⟨u, h1, h2⟩ := idx_some hi
    obtain ⟨e', he', hek, hv⟩ := entry_at hes h1
    rw [hi] at hf
    have hf : (Instr.findKey tk (kv x.1) es.toList).run P w = .ok (some (i, u)) w := by
      rw [hf]
      show Result.ok (es.toList[i]?.map fun e => (i, e.val)) w = _
      rw [he']
      show Result.ok (some (i, e'.val)) w = _
      rw [hv]
    have her : (es.eraseIdxIfInBounds i).toList = es.toList.eraseIdx i := by
      have hil : i < es.size := by simpa using (List.getElem?_eq_some_iff.1 he').1
      simp [Array.eraseIdxIfInBounds, hil]
    -- the one that is found is the one that came
    have hb : e'.born = e.born := by
      have hn := keys_nodup hes inj hnd
      obtain ⟨j, hj, ej⟩ := List.getElem_of_mem he
      obtain ⟨hi', ei'⟩ := List.getElem?_eq_some_iff.1 he'
      by_cases c : i = j
      · subst c; rw [← ei', ej]
      · exfalso
        have hp := List.pairwise_iff_getElem.1 hn
        rcases Nat.lt_or_gt_of_ne c with c | c
        · exact hp i j (by simpa using hi') (by simpa using hj) c (by simp [ei', ej, hek, ek])
        · exact hp j i (by simpa using hj) (by simpa using hi') c (by simp [ei', ej, hek, ek])
    have fr : Fr (· = b) w { w with heap := w.heap.setIfInBounds b (.map (es.eraseIdxIfInBounds i) clock) } := set_fr
    refine RunC_intro (w' := { w with heap := w.heap.setIfInBounds b (.map (es.eraseIdxIfInBounds i) clock) }) ?_ (hk _ ⟨hne, _, clock, since, seen, c0, set_at hlt, ?_, ?_, ?_, ?_, a6, (fr.blk r hrl hne).trans a7, a8, ?_, ?_, fun y e => by cases e⟩ fr (by simp))
    · simp [Builtin.delete_, run_underlying hu, MapKept.run_getObj_map hM, K.chk, hf, Result.andThen, MapKept.run_setObj_map _ hM]
    · rw [her, del_some hnd hi, Go.ChangeMaps.map_eraseIdx, Go.ChangeMaps.map_eraseIdx, hes]
    · exact hnd.sublist (List.Sublist.map _ List.filter_sublist)
    · rw [her]; exact fun x hx => hbn x (List.eraseIdx_subset hx)
    · rw [her]; exact hbd.sublist (List.Sublist.map _ (List.eraseIdx_sublist _ _))
    · rw [her, erase_filter he' (by rw [e1, hb]; simp)]; exact a9
    · have : left.filter (fun y => !decide (y.1 = x.1)) = left := by
        rw [List.filter_eq_self]
        intro y hy
        simp only [Bool.not_eq_true', decide_eq_false_iff_not]
        intro e
        exact hx (List.mem_map.2 ⟨y, hy, e⟩)
      rw [← this]
      exact a10.filter _
end
end Go.Vc
/- Keys of maps: pairs of whole numbers, and whole numbers. -/
namespace Go.Vc
variable {P : Program}
theorem chk_leaf {t : TypeId} {d : TypeDesc} (hd : P.underlying t = some d) (hl : (match (some d : Option TypeDesc) with | some (.int _) => true | some .bool => true | _ => false) = true) (e : Bool) (n : Nat) (v : Value) (w : World) : (Instr.checkKey e (n + 1) t v).run P w = .ok () w := by
  cases d <;> simp at hl <;> simp [Instr.checkKey, run_underlying hd]
theorem chk_struct {t : TypeId} {fs : Array Field} (hu : P.underlying t = some (.struct fs)) (cs : List Value) (he : eqLeaves P fs.toList 0 = true) (hf : leafFit P fs.toList cs = true) (e : Bool) (n : Nat) (w : World) : (Instr.checkKey e (n + 2) t (.agg cs.toArray)).run P w = .ok () w := by
  rw [show n + 2 = (n + 1) + 1 from rfl, Instr.checkKey]
  simp only [Sem.run_bind, run_underlying hu, Result.andThen_ok]
  rw [← Array.forIn_toList]
  have key : ∀ (L : List Field) (i : Nat) (ds : List Value), cs.drop i = ds → eqLeaves P L i = true → leafFit P L ds = true →
      (forIn (m := Sem) L PUnit.unit fun f _ => do
        if f.name ≠ "_" then
          Instr.checkKey e (n + 1) f.type (← part f.type cs.toArray f.offset)
          pure (ForInStep.yield PUnit.unit)
        else pure (ForInStep.yield PUnit.unit)).run P w = .ok PUnit.unit w := by
    intro L
    induction L with
    | nil => intro i ds _ _ _; simp
    | cons f L ih =>
      intro i ds hds he hf
      simp only [eqLeaves, Bool.and_eq_true] at he
      obtain ⟨h1, h2, h3, h4⟩ := he
      have h2 := Nat.eq_of_beq_eq_true h2
      have hname : f.name ≠ "_" := by simpa using h1
      cases ds with
      | nil => cases hf
      | cons v vs =>
        simp only [leafFit, Bool.and_eq_true] at hf
        have ex : cs.toArray[f.offset]? = some v := by
          have := congrArg (fun l => l[0]?) hds
          rw [h2]; simpa using this
        have hvs : cs.drop (i + 1) = vs := by
          have := congrArg List.tail hds
          simpa using this
        obtain ⟨dd, hu2, hl2⟩ : ∃ dd, P.underlying f.type = some dd ∧ (match (some dd : Option TypeDesc) with | some (.int _) => true | some .bool => true | _ => false) = true := by
          cases hu : P.underlying f.type with
          | none => rw [hu] at h3; cases h3
          | some dd => rw [hu] at h3; exact ⟨dd, rfl, h3⟩
        simp only [List.forIn_cons, Sem.run_bind, hname, ne_eq, not_false_eq_true, if_true, Result.andThen_ok, run_part_leaf hu2 hl2 ex, chk_leaf hu2 hl2, Sem.run_pure]
        exact ih (i + 1) vs hvs h4 hf.2
  have := key fs.toList 0 cs rfl he hf
  simp at this ⊢
  rw [this]; rfl
theorem equal_struct {t : TypeId} {cs ds : List Value} (h : eqStruct P t cs ds = true) (w : World) : (Op.equal t (.agg cs.toArray) (.agg ds.toArray)).run P w = .ok (cellsEq cs ds) w := by
  unfold eqStruct at h
  split at h
  · rename_i fs hu
    simp only [Bool.and_eq_true, Bool.not_eq_true'] at h
    obtain ⟨h1, h2, h3, h4, h5⟩ := h
    have hfs : P.fieldsOf t = fs := by unfold Program.fieldsOf; rw [hu]
    unfold Op.equal
    rw [show (Op.maxDepth : Nat) = 9999 + 1 from rfl, run_equalIn_struct w 9999 t _ _ (by rw [hfs]; exact hu) h4, hfs, show (9999 : Nat) = 9998 + 1 from rfl, run_eqFields w 9998 fs.toList 0 _ _ cs ds (by simp) (by simp) h1 h2 h3]
  · cases h
def pairL (p : Int × Int) : List Value := [.int .i64 p.1, .int .i64 p.2]
def pairV (p : Int × Int) : Value := .agg (pairL p).toArray
theorem pairV_inj (a b : Int × Int) (h : pairV a = pairV b) : a = b := by
  unfold pairV pairL at h
  injection h with h
  have h := congrArg Array.toList h
  simp at h
  exact Prod.ext h.1 h.2
theorem pair_eq (a b : Int × Int) : cellsEq (pairL a) (pairL b) = decide (a = b) := by
  show ((a.1 == b.1) && ((a.2 == b.2) && true)) = _
  rw [Bool.eq_iff_iff]
  simp [Prod.ext_iff]
/-- A key among entries, asked one by one. -/
theorem find_ask {κ : Type} [DecidableEq κ] {kv : κ → Value} {t : TypeId} (heq : ∀ a b w, (Op.equal t (kv a) (kv b)).run P w = .ok (decide (a = b)) w) (k : κ) (w : World) : ∀ (es : List MapEntry) (m : List (κ × Value)) (i : Nat), es.map (·.key) = m.map (fun x => kv x.1) →
    (Instr.findAsking t (kv k) es i).run P w = .ok ((idxM m k).bind fun j => es[j]?.map fun e => (i + j, e.val)) w := by
  intro es
  induction es with
  | nil =>
    intro m i h
    cases m with
    | nil => simp [Instr.findAsking, idxM]
    | cons x m => cases h
  | cons e es ih =>
    intro m i h
    cases m with
    | nil => cases h
    | cons x m =>
      simp only [List.map_cons, List.cons.injEq] at h
      obtain ⟨h1, h2⟩ := h
      unfold idxM
      have hq := heq k x.1 w
      rw [← h1] at hq
      by_cases c : x.1 = k
      · rw [if_pos c]
        rw [decide_eq_true c.symm] at hq
        simp [Instr.findAsking, hq]
      · rw [if_neg c]
        rw [decide_eq_false (fun e => c e.symm)] at hq
        simp only [Instr.findAsking, Sem.run_bind, hq, Result.andThen_ok, Bool.false_eq_true, if_false]
        rw [ih m (i + 1) h2]
        cases idxM m k with
        | none => rfl
        | some j =>
          show Result.ok (es[j]?.map fun e => (i + 1 + j, e.val)) w = Result.ok (((e :: es)[j + 1]?).map fun e => (i + (j + 1), e.val)) w
          rw [List.getElem?_cons_succ, show i + 1 + j = i + (j + 1) by omega]
theorem pair_key {t : TypeId} (h : ∀ a b, eqStruct P t (pairL a) (pairL b) = true) : KeyOk P t pairV where
  chk e k w := by
    have hk := h k k
    unfold eqStruct at hk
    split at hk
    · rename_i fs hu
      simp only [Bool.and_eq_true, Bool.not_eq_true'] at hk
      exact chk_struct hu (pairL k) hk.1 hk.2.1 e 9998 w
    · cases hk
  fnd k es m w hes := by
    have hk := h k k
    unfold eqStruct at hk
    split at hk
    · rename_i fs hu
      have ha := find_ask (P := P) (kv := pairV) (t := t) (fun a b w => by rw [← pair_eq]; exact equal_struct (h a b) w) k w es m 0 hes
      have hz : ((idxM m k).bind fun j => es[j]?.map fun e => (0 + j, e.val)) = (idxM m k).bind fun i => es[i]?.map fun e => (i, e.val) := by simp
      rw [hz] at ha
      cases es with
      | nil =>
        cases m with
        | nil => simp [Instr.findKey, run_underlying hu, Instr.findNow, idxM]
        | cons x m => cases hes
      | cons e es =>
        have : Instr.findNow (.struct fs) (pairV k) (e :: es) 0 = none := rfl
        simp only [Instr.findKey, Sem.run_bind, run_underlying hu, Result.andThen_ok, this]
        exact ha
    · cases hk
  bits k := by
    show ((pairL k).toArray.size == (pairL k).toArray.size && _) = true
    simp [pairL, Instr.sameBits]
end Go.Vc
