/- Layer 14 (heap): a part of it turns. -/
import Derived.Test.YthmkimnpdnmahaaHeap1
import Derived.Test.YthmkimnpdnmahaaRegion6
namespace Go.Proofs.Ythmkimnpdnmahaa
open Go.Vc

section
variable {w w' : World} {z z' : Nat → Nat} {c : Cfg} {hb : Nat} {p : HP} {s : HS}
theorem HeapAt.c3 (h : HeapAt w z c hb p s) : 1 ≤ c.c3 ∧ c.c3 ≤ 64 := h.ok.ls 1 (c.c3, 1, 64) rfl
theorem HeapAt.setRegs {rs' : List R} (h : HeapAt w z c hb p s) (m : Mv z z' (· = 3) w w') (hr : RegIn w' z' 3 p.rb (P c) rs') (hl : (rs'.length : Int) = c.c1) : HeapAt w' z' c hb p { s with rs := rs' } := by
  have c3 := h.c3
  have hbl := h.bsl
  have h1 := h.tab.mv h.tabz m (by decide)
  have h2 := own_mv h.rootr h.rootz m (by decide)
  have h3 := h.bufr.mv h.bufz m (by decide)
  exact ⟨h.ok, h1.1, h1.2, h.arena.mv m (by decide), h.wsl, hr, hl, h.offs.mv m (by decide), h.cards.mv m (by decide), h.queue.mv m (by decide) (fun t _ e => by omega), h.ownl, h.sets.mv m (by decide), h.marks.mv m (by decide), h2.1, h2.2, hbl, h.refl,
    fun t b l hb hl => (h.stacks t b l hb hl).mv m (fun e => by omega), h3.1, h3.2, h.bufl⟩
theorem HeapAt.setBuf {l' : List (Int × Int)} (h : HeapAt w z c hb p s) (m : Mv z z' (· = 10) w w') (hr : Blk w' p.bf t_buffer_Buffer (bufL l')) (hl : (l'.length : Int) = c.c3) : HeapAt w' z' c hb p { s with bufs := l' } := by
  have hbl := h.bsl
  have h1 := h.tab.mv h.tabz m (by decide)
  have h2 := own_mv h.rootr h.rootz m (by decide)
  exact ⟨h.ok, h1.1, h1.2, h.arena.mv m (by decide), h.wsl, h.regs.mv m (by decide), h.rsl, h.offs.mv m (by decide), h.cards.mv m (by decide), h.queue.mv m (by decide) (fun t _ e => by omega), h.ownl, h.sets.mv m (by decide), h.marks.mv m (by decide), h2.1, h2.2, hbl, h.refl,
    fun t b l hb hl => (h.stacks t b l hb hl).mv m (fun e => by omega), hr, (m.zs _ h.bufr.lt).trans h.bufz, hl⟩
theorem HeapAt.setArena {acc : Int} {ws' : List Int} (h : HeapAt w z c hb p s) (m : Mv z z' (· = 2) w w') (hr : ArenaIn w' z' 2 p.ab acc ws') (hl : ws'.length = s.ws.length) : HeapAt w' z' c hb p { s with acc := acc, ws := ws' } := by
  have hbl := h.bsl
  have h1 := h.tab.mv h.tabz m (by decide)
  have h2 := own_mv h.rootr h.rootz m (by decide)
  have h3 := h.bufr.mv h.bufz m (by decide)
  have hw := h.wsl
  exact ⟨h.ok, h1.1, h1.2, hr, by rw [← hw, ← hl], h.regs.mv m (by decide), h.rsl, h.offs.mv m (by decide), h.cards.mv m (by decide), h.queue.mv m (by decide) (fun t _ e => by omega), h.ownl, h.sets.mv m (by decide), h.marks.mv m (by decide), h2.1, h2.2, hbl, h.refl,
    fun t b l hb hl => (h.stacks t b l hb hl).mv m (fun e => by omega), h3.1, h3.2, h.bufl⟩
theorem HeapAt.setStack {t b : Nat} {l' : List Int} (h : HeapAt w z c hb p s) (hb' : p.bs[t]? = some b) (m : Mv z z' (· = 100 + t) w w') (hr : StackIn w' z' (100 + t) b c.c4 l') : HeapAt w' z' c hb p { s with refs := s.refs.set t l' } := by
  have c3 := h.c3
  have hbl := h.bsl
  have ht := (List.getElem?_eq_some_iff.1 hb').1
  have hs : ∀ {i}, i ≤ 10 → ¬ (i = 100 + t) := fun a e => by omega
  have h1 := h.tab.mv h.tabz m (hs (by decide))
  have h2 := own_mv h.rootr h.rootz m (hs (by decide))
  have h3 := h.bufr.mv h.bufz m (hs (by decide))
  refine ⟨h.ok, h1.1, h1.2, h.arena.mv m (hs (by decide)), h.wsl, h.regs.mv m (hs (by decide)), h.rsl, h.offs.mv m (hs (by decide)), h.cards.mv m (hs (by decide)), h.queue.mv m (hs (by decide)) (fun t _ e => by omega), h.ownl, h.sets.mv m (hs (by decide)), h.marks.mv m (hs (by decide)), h2.1, h2.2, hbl, (by rw [← h.refl]; exact List.length_set ..),
    fun t' b2 l hb hl => ?_, h3.1, h3.2, h.bufl⟩
  have hl : (s.refs.set t l')[t']? = some l := hl
  rw [List.getElem?_set] at hl
  by_cases e : t = t'
  · subst e
    rw [hb'] at hb
    injection hb with hb
    subst hb
    rw [if_pos rfl, if_pos (by rw [h.refl]; exact ht)] at hl
    injection hl with hl
    subst hl; exact hr
  · rw [if_neg e] at hl
    exact (h.stacks t' b2 l hb hl).mv m (fun e => by omega)
end
theorem bufL_get : ∀ {l : List (Int × Int)} {t : Nat} {x : Int × Int}, l[t]? = some x → (bufL l)[0 + t * 2]? = some (.int .i64 x.1) ∧ (bufL l)[0 + t * 2 + 1]? = some (.int .i64 x.2) := by
  intro l
  induction l with
  | nil => intro t x h; cases h
  | cons y l ih =>
    intro t x h
    cases t with
    | zero => simp only [List.getElem?_cons_zero, Option.some.injEq] at h; subst h; exact ⟨rfl, rfl⟩
    | succ t =>
      have := ih (t := t) (x := x) (by simpa using h)
      rw [show 0 + (t + 1) * 2 = 0 + t * 2 + 2 by omega]
      exact this
theorem bufL_set1 : ∀ {l : List (Int × Int)} {t : Nat} {x : Int × Int}, l[t]? = some x → ∀ v : Int, (bufL l).set (0 + t * 2) (.int .i64 v) = bufL (l.set t (v, x.2)) := by
  intro l
  induction l with
  | nil => intro t x h; cases h
  | cons y l ih =>
    intro t x h v
    cases t with
    | zero => simp only [List.getElem?_cons_zero, Option.some.injEq] at h; subst h; rfl
    | succ t =>
      have := ih (t := t) (x := x) (by simpa using h) v
      rw [show 0 + (t + 1) * 2 = 0 + t * 2 + 2 by omega]
      show _ :: _ :: (bufL l).set (0 + t * 2) _ = _ :: _ :: bufL (l.set t (v, x.2))
      rw [this]
theorem bufL_set2 : ∀ {l : List (Int × Int)} {t : Nat} {x : Int × Int}, l[t]? = some x → ∀ v : Int, (bufL l).set (0 + t * 2 + 1) (.int .i64 v) = bufL (l.set t (x.1, v)) := by
  intro l
  induction l with
  | nil => intro t x h; cases h
  | cons y l ih =>
    intro t x h v
    cases t with
    | zero => simp only [List.getElem?_cons_zero, Option.some.injEq] at h; subst h; rfl
    | succ t =>
      have := ih (t := t) (x := x) (by simpa using h) v
      rw [show 0 + (t + 1) * 2 + 1 = 0 + t * 2 + 1 + 2 by omega]
      show _ :: _ :: (bufL l).set (0 + t * 2 + 1) _ = _ :: _ :: bufL (l.set t (x.1, v))
      rw [this]
theorem bufL_both {l : List (Int × Int)} {t : Nat} {x : Int × Int} (h : l[t]? = some x) (u v : Int) : bufSet (bufL l) (0 + t * 2) u v = bufL (l.set t (u, v)) := by
  have ht := (List.getElem?_eq_some_iff.1 h).1
  unfold bufSet
  rw [bufL_set1 h u, bufL_set2 (x := (u, x.2)) (List.getElem?_set_self ht) v, List.set_set]
theorem HeapAt.buf {w : World} {z : Nat → Nat} {c : Cfg} {hb : Nat} {p : HP} {s : HS} (h : HeapAt w z c hb p s) {t : Nat} {x : Int × Int} (hx : s.bufs[t]? = some x) : IsBuf w p.bf (0 + t * 2) (bufL s.bufs) x.1 x.2 := ⟨h.bufr, (bufL_get hx).1, (bufL_get hx).2⟩
end Go.Proofs.Ythmkimnpdnmahaa
