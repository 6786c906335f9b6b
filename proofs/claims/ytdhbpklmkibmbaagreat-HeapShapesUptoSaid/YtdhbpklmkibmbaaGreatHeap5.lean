/- Layer 14 (heap): a part of it turns. -/
import Derived.Test.YtdhbpklmkibmbaaGreatHeap1
import Derived.Test.YtdhbpklmkibmbaaGreatRegion6
import Derived.Test.YtdhbpklmkibmbaaGreatVcI
import Derived.Test.YtdhbpklmkibmbaaGreatGeom5
namespace Go.Proofs.YtdhbpklmkibmbaaGreat
open Go.Vc

section
variable {w w' : World} {z z' : Nat → Nat} {c : Cfg} {hb : Nat} {p : HP} {s : HS}
theorem HeapAt.c3 (h : HeapAt w z c hb p s) : 1 ≤ c.c3 ∧ c.c3 ≤ 64 := h.ok.ls 1 (c.c3, 1, 64) rfl
theorem HeapAt.setRegs {rs' : List R} (h : HeapAt w z c hb p s) (m : Mv z z' (· = 3) w w') (hr : RegIn w' z' 3 p.rb (P c) rs') (hl : (rs'.length : Int) = c.c1) : HeapAt w' z' c hb p { s with rs := rs' } := by
  have c3 := h.c3
  have hbl := h.bsl
  have h1 := h.tab.mv h.tabz m (by decide)
  have h2 := own_mv h.rootr h.rootz m (by decide)
  have h3 := h.bufr.mv h.bufz m (by decide)
  exact ⟨h.ok, h1.1, h1.2, h.arena.mv m (by decide), h.wsl, hr, hl, h.offs.mv m (by decide), h.cards.mv m (by decide), h.queue.mv m (by decide) (fun t _ e => by omega), h.ownl, h.sets.mv m (by decide), h.marks.mv m (by decide), h2.1, h2.2, hbl, h.refl,
    fun t b l hb hl => (h.stacks t b l hb hl).mv m (fun e => by omega), h3.1, h3.2, h.bufl⟩
theorem HeapAt.setBuf {l' : List (Int × Int)} (h : HeapAt w z c hb p s) (m : Mv z z' (· = 10) w w') (hr : Blk w' p.bf t_buffer_Buffer (bufL l')) (hl : (l'.length : Int) = c.c3) : HeapAt w' z' c hb p { s with bufs := l' } := by
  have hbl := h.bsl
  have h1 := h.tab.mv h.tabz m (by decide)
  have h2 := own_mv h.rootr h.rootz m (by decide)
  exact ⟨h.ok, h1.1, h1.2, h.arena.mv m (by decide), h.wsl, h.regs.mv m (by decide), h.rsl, h.offs.mv m (by decide), h.cards.mv m (by decide), h.queue.mv m (by decide) (fun t _ e => by omega), h.ownl, h.sets.mv m (by decide), h.marks.mv m (by decide), h2.1, h2.2, hbl, h.refl,
    fun t b l hb hl => (h.stacks t b l hb hl).mv m (fun e => by omega), hr, (m.zs _ h.bufr.lt).trans h.bufz, hl⟩
theorem HeapAt.setArena {acc : Int} {ws' : List Int} (h : HeapAt w z c hb p s) (m : Mv z z' (· = 2) w w') (hr : ArenaIn w' z' 2 p.ab acc ws') (hl : ws'.length = s.ws.length) : HeapAt w' z' c hb p { s with acc := acc, ws := ws' } := by
  have hbl := h.bsl
  have h1 := h.tab.mv h.tabz m (by decide)
  have h2 := own_mv h.rootr h.rootz m (by decide)
  have h3 := h.bufr.mv h.bufz m (by decide)
  have hw := h.wsl
  exact ⟨h.ok, h1.1, h1.2, hr, by rw [← hw, ← hl], h.regs.mv m (by decide), h.rsl, h.offs.mv m (by decide), h.cards.mv m (by decide), h.queue.mv m (by decide) (fun t _ e => by omega), h.ownl, h.sets.mv m (by decide), h.marks.mv m (by decide), h2.1, h2.2, hbl, h.refl,
    fun t b l hb hl => (h.stacks t b l hb hl).mv m (fun e => by omega), h3.1, h3.2, h.bufl⟩
theorem HeapAt.setStack {t b : Nat} {l' : List Int} (h : HeapAt w z c hb p s) (hb' : p.bs[t]? = some b) (m : Mv z z' (· = 100 + t) w w') (hr : StackIn w' z' (100 + t) b c.c4 l') : HeapAt w' z' c hb p { s with refs := s.refs.set t l' } := by
  have c3 := h.c3
  have hbl := h.bsl
  have ht := (List.getElem?_eq_some_iff.1 hb').1
  have hs : ∀ {i}, i ≤ 10 → ¬ (i = 100 + t) := fun a e => by omega
  have h1 := h.tab.mv h.tabz m (hs (by decide))
  have h2 := own_mv h.rootr h.rootz m (hs (by decide))
  have h3 := h.bufr.mv h.bufz m (hs (by decide))
  refine ⟨h.ok, h1.1, h1.2, h.arena.mv m (hs (by decide)), h.wsl, h.regs.mv m (hs (by decide)), h.rsl, h.offs.mv m (hs (by decide)), h.cards.mv m (hs (by decide)), h.queue.mv m (hs (by decide)) (fun t _ e => by omega), h.ownl, h.sets.mv m (hs (by decide)), h.marks.mv m (hs (by decide)), h2.1, h2.2, hbl, (by rw [← h.refl]; exact List.length_set ..),
    fun t' b2 l hb hl => ?_, h3.1, h3.2, h.bufl⟩
  have hl : (s.refs.set t l')[t']? = some l := hl
  rw [List.getElem?_set] at hl
  by_cases e : t = t'
  · subst e
    rw [hb'] at hb
    injection hb with hb
    subst hb
    rw [if_pos rfl, if_pos (by rw [h.refl]; exact ht)] at hl
    injection hl with hl
    subst hl; exact hr
  · rw [if_neg e] at hl
    exact (h.stacks t' b2 l hb hl).mv m (fun e => by omega)
end
theorem bufL_get : ∀ {l : List (Int × Int)} {t : Nat} {x : Int × Int}, l[t]? = some x → (bufL l)[0 + t * 2]? = some (.int .i64 x.1) ∧ (bufL l)[0 + t * 2 + 1]? = some (.int .i64 x.2) := by
  intro l
  induction l with
  | nil => intro t x h; cases h
  | cons y l ih =>
    intro t x h
    cases t with
    | zero => simp only [List.getElem?_cons_zero, Option.some.injEq] at h; subst h; exact ⟨rfl, rfl⟩
    | succ t =>
      have := ih (t := t) (x := x) (by simpa using h)
      rw [show 0 + (t + 1) * 2 = 0 + t * 2 + 2 by omega]
      exact this
theorem bufL_set1 : ∀ {l : List (Int × Int)} {t : Nat} {x : Int × Int}, l[t]? = some x → ∀ v : Int, (bufL l).set (0 + t * 2) (.int .i64 v) = bufL (l.set t (v, x.2)) := by
  intro l
  induction l with
  | nil => intro t x h; cases h
  | cons y l ih =>
    intro t x h v
    cases t with
    | zero => simp only [List.getElem?_cons_zero, Option.some.injEq] at h; subst h; rfl
    | succ t =>
      have := ih (t := t) (x := x) (by simpa using h) v
      rw [show 0 + (t + 1) * 2 = 0 + t * 2 + 2 by omega]
      show _ :: _ :: (bufL l).set (0 + t * 2) _ = _ :: _ :: bufL (l.set t (v, x.2))
      rw [this]
theorem bufL_set2 : ∀ {l : List (Int × Int)} {t : Nat} {x : Int × Int}, l[t]? = some x → ∀ v : Int, (bufL l).set (0 + t * 2 + 1) (.int .i64 v) = bufL (l.set t (x.1, v)) := by
  intro l
  induction l with
  | nil => intro t x h; cases h
  | cons y l ih =>
    intro t x h v
    cases t with
    | zero => simp only [List.getElem?_cons_zero, Option.some.injEq] at h; subst h; rfl
    | succ t =>
      have := ih (t := t) (x := x) (by simpa using h) v
      rw [show 0 + (t + 1) * 2 + 1 = 0 + t * 2 + 1 + 2 by omega]
      show _ :: _ :: (bufL l).set (0 + t * 2 + 1) _ = _ :: _ :: bufL (l.set t (x.1, v))
      rw [this]
theorem bufL_both {l : List (Int × Int)} {t : Nat} {x : Int × Int} (h : l[t]? = some x) (u v : Int) : bufSet (bufL l) (0 + t * 2) u v = bufL (l.set t (u, v)) := by
  have ht := (List.getElem?_eq_some_iff.1 h).1
  unfold bufSet
  rw [bufL_set1 h u, bufL_set2 (x := (u, x.2)) (List.getElem?_set_self ht) v, List.set_set]
theorem HeapAt.buf {w : World} {z : Nat → Nat} {c : Cfg} {hb : Nat} {p : HP} {s : HS} (h : HeapAt w z c hb p s) {t : Nat} {x : Int × Int} (hx : s.bufs[t]? = some x) : IsBuf w p.bf (0 + t * 2) (bufL s.bufs) x.1 x.2 := ⟨h.bufr, (bufL_get hx).1, (bufL_get hx).2⟩
end Go.Proofs.YtdhbpklmkibmbaaGreat
/- Layer 15 (mutate): place, of what isn't big. -/
namespace Go.Proofs.YtdhbpklmkibmbaaGreat
open Go.Vc

def HS.regs (s : HS) (rs : List R) : HS := { s with rs := rs }
def HS.buf (s : HS) (l : List (Int × Int)) : HS := { s with bufs := l }
/-- The regions behind Drop: the top goes back to what was taken. -/
def rsDrop (c : Cfg) (x : Int × Int) (rs : List R) : List R := if x.1 < x.2 then (setTopF (P c) (x.1 / P c) x.1 rs).2 else rs
/-- What place comes to: (there are words, where, the heap's state). -/
inductive Placed (c : Cfg) (t : Nat) (n : Int) (x : Int × Int) (s : HS) : Bool → Int → HS → Prop where
  | take : n ≤ x.2 - x.1 → Placed c t n x s true x.1 (s.buf (s.bufs.set t (x.1 + n, x.2)))
  | young : x.2 - x.1 < n → c.c7 ≤ (idxs 1 (rsDrop c x s.rs) (rsDrop c x s.rs).length).length → Placed c t n x s false 0 ((s.regs (rsDrop c x s.rs)).buf (s.bufs.set t (0, 0)))
  | full : x.2 - x.1 < n → ((idxs 1 (rsDrop c x s.rs) (rsDrop c x s.rs).length).length : Int) < c.c7 → (∀ (j : Nat) (y : R), (rsDrop c x s.rs)[j]? = some y → y.1 ≠ 0) → Placed c t n x s false 0 ((s.regs (rsDrop c x s.rs)).buf (s.bufs.set t (0, 0)))
  | claim (k : Nat) (y : R) : x.2 - x.1 < n → ((idxs 1 (rsDrop c x s.rs) (rsDrop c x s.rs).length).length : Int) < c.c7 → (rsDrop c x s.rs)[k]? = some y → y.1 = 0 → (∀ (j : Nat) (q : R), j < k → (rsDrop c x s.rs)[j]? = some q → q.1 ≠ 0) →
      Placed c t n x s true (k * P c) ((s.regs ((rsDrop c x s.rs).set k (1, P c, y.2.2))).buf (s.bufs.set t (k * P c + n, k * P c + P c)))
theorem bufL_len (l : List (Int × Int)) : (bufL l).length = 2 * l.length := by
  induction l with
  | nil => rfl
  | cons a l ih => simp [bufL] at ih ⊢; omega
theorem rsDrop_len (c : Cfg) (x : Int × Int) (rs : List R) : (rsDrop c x rs).length = rs.length := by
  unfold rsDrop
  split
  · unfold setTopF
    split
    · rfl
    · split
      · rfl
      · split
        · simp
        · rfl
  · rfl
theorem place_spec {c : Cfg} {p : HP} {hb sh mb : Nat} {z : Nat → Nat} {s : HS} {t : Int} {m : Mu} {x : Int × Int} (n : Int) (w : World) (h : HeapAt w z c hb p s) (hm : Blk w mb t_mutate_Mutator (mutL hb sh t m)) (h0 : 0 ≤ t) (hx : s.bufs[t.toNat]? = some x)
    (hz : z mb ≠ 3 ∧ z mb ≠ 10) (hn : 1 ≤ n) (hn2 : n ≤ P c / 2) (hxb : 0 ≤ x.1 ∧ x.1 ≤ 4194304 ∧ 0 ≤ x.2 ∧ x.2 ≤ 4194304) (hxr : x.1 < x.2 → x.1 < c.c1 * P c) :
    CallC Pr f_mutate_Mutator_place [ptr mb, .int .i64 n] w (fun r w' => ∃ ok pos s', r = .tuple #[.int .i64 pos, .bool ok] ∧ Placed c t.toNat n x s ok pos s' ∧ HeapAt w' z c hb p s' ∧ Mv z z (fun i => i = 3 ∨ i = 10) w w') := by
  have hp := P_le h.ok
  have c3 := h.c3
  have hbl := h.bufl
  have tl := (List.getElem?_eq_some_iff.1 hx).1
  have ht : t < c.c3 := by omega
  obtain ⟨ra, rc, hr, hT⟩ := h.cells
  have s0 := h.ok.s0
  have s1 := h.ok.s1
  refine call_sound T_ok fun_mutate_Mutator_place rfl (by kernel_rfl) rfl (Kp ?_)
  refine LdC_blk hm rfl ?_
  refine LdN_blk (vs := geoC c) hT rfl rfl ?_
  refine CallC_intro (Big_spec (c.c1 * P c) (P c) (Q c) c.c1 (c.c1 * P c / Q c) (min 1048576 (c.c1 * P c - P c)) n w) (fun v w1 ⟨hv, f1⟩ => ?_)
  rw [decide_eq_false (show ¬ n > P c / 2 by omega)] at hv
  subst hv
  have m1 : Mv z z (fun _ => False) w w1 := Mv.of f1
  have H1 := h.mv m1 (fun _ _ => id)
  have hm1 := hm.keep f1 id
  have hT1 := hT.keep f1 id
  refine AnyC_lex T_ok mixed (by kernel_rfl) (by kernel_rfl) (Kp ?_)
  refine LdS_blk hT1 rfl ?_
  refine LdS_blk hm1 rfl ?_
  refine Sd_intro ⟨h0, (show t < ((c.c3.toNat : Nat) : Int) by omega)⟩ ?_
  have f1d := f1.no (Fr.drew w1)
  have H1 := h.mv (Mv.of (S := fun _ => False) f1d) (fun _ _ => id)
  have B1 := H1.buf hx
  have ea : (⟨p.bf, 0 + t.toNat * 2, none⟩ : Addr) = (Addr.mk p.bf 0 none).add (t.toNat * 2) := add_of.symm
  rcases Int.lt_or_le (x.2 - x.1) n with hlt | hge
  · have TF := Take_full n w1.drew B1 ⟨hxb.1, hxb.2.1, hxb.2.2.1, hxb.2.2.2⟩ hn hlt
    rw [ea] at TF
    refine CallC_intro TF (fun v w2 ⟨hv, f2⟩ => ?_)
    subst hv
    have f02 := f1d.no f2
    have H2 := h.mv (Mv.of (S := fun _ => False) f02) (fun _ _ => id)
    have DR := buf_Drop_spec w2 (H2.buf hx)
    rw [ea] at DR
    refine CallC_intro DR (fun v w3 ⟨hv, hB3, f3⟩ => ?_)
    subst hv
    have hB3 := hB3.blk
    rw [bufL_both hx] at hB3
    have m3 : Mv z z (· = 10) w2 w3 := Mv.ofZ f3 (fun k _ e => by rw [e]; exact H2.bufz)
    have H3 := H2.setBuf m3 hB3 (by rw [List.length_set]; exact hbl)
    have hT3 : Blk w3 hb t_heap_Heap (cfgL c ++ geoC c ++ [ptr p.ab, ptr p.rb, ptr p.ob, ptr p.cb, ptr p.qb, ptr p.sb, ptr p.mb, .slice ra p.bs.length rc, .slice (some ⟨p.bf, 0, none⟩) c.c3.toNat c.c3.toNat]) := by
      have := H3.tab; unfold heapL at this; rw [hr] at this; exact this
    have hm3 : Blk w3 mb t_mutate_Mutator (mutL hb sh t m) := (hm.keep f02 id).keep m3.fr hz.2
    have mm3 : Mv z z (fun i => i = 3 ∨ i = 10) w w3 := (Mv.of (S := fun _ => False) f02).trans m3 (fun _ e => e.elim) (fun _ e => .inr e)
    have eP : P c = 2 ^ c.c0.toNat := rfl
    -- behind Drop: the regions' tops
    have key : ∀ w4 : World, HeapAt w4 z c hb p ((s.regs (rsDrop c x s.rs)).buf (s.bufs.set t.toNat (0, 0))) → Blk w4 mb t_mutate_Mutator (mutL hb sh t m) → Mv z z (fun i => i = 3 ∨ i = 10) w w4 → True := fun _ _ _ _ => trivial
    refine Br_dec (fun g => ?_) (fun g => ?_)
    · have g : x.1 < x.2 := g
      refine AnyC_plan T_ok mixed (planO [0,1,2,3,4,5,6,7,8,10,1009,1011]) (fun w' => Blk w' hb t_heap_Heap (cfgL c ++ geoC c ++ [ptr p.ab, ptr p.rb, ptr p.ob, ptr p.cb, ptr p.qb, ptr p.sb, ptr p.mb, .slice ra p.bs.length rc, .slice (some ⟨p.bf, 0, none⟩) c.c3.toNat c.c3.toNat])) (by kernel_rfl) (by kernel_rfl) (hT3.keep (Fr.drew w3) id) (Kp ?_)
      refine LdS_of (fun w' hw => hw) rfl ?_
      refine LdSN_of (vs := geoC c) (fun w' hw => hw) rfl rfl ?_
      refine ⟨?_, trivial⟩
      refine CallC_intro (Region_spec (c.c1 * P c) (Q c) c.c1 (c.c1 * P c / Q c) (min 1048576 (c.c1 * P c - P c)) x.1 c.c0.toNat (by omega) w3.drew) (fun v w3' ⟨hv, f3'⟩ => ?_)
      have hx1 := hxr g
      rw [if_neg (by omega)] at hv
      subst hv
      have f33 := (Fr.drew w3).no f3'
      refine Sd_intro (hT3.keep f33 id) ?_
      refine ⟨?_, trivial⟩
      have H3' := H3.mv (Mv.of (S := fun _ => False) f33) (fun _ _ => id)
      obtain ⟨rr0, hR3, zrb0, zrr0⟩ := H3'.regs
      refine CallC_intro (SetTop_spec (x.1 / P c) x.1 w3' hR3) (fun v w4 ⟨hv, hR4', f4⟩ => ?_)
      subst hv
      have m4 : Mv z z (· = 3) w3' w4 := Mv.ofZ f4 (fun k _ e => by rw [e]; exact zrr0)
      have ers : (setTopF (P c) (x.1 / P c) x.1 s.rs).2 = rsDrop c x s.rs := by unfold rsDrop; rw [if_pos g]
      have hrl4 : ((setTopF (P c) (x.1 / P c) x.1 s.rs).2.length : Int) = c.c1 := by rw [ers, rsDrop_len]; exact h.rsl
      have H4 := H3'.setRegs m4 ⟨rr0, hR4', zrb0, zrr0⟩ hrl4
      have H4 : HeapAt w4 z c hb p ((s.regs (rsDrop c x s.rs)).buf (s.bufs.set t.toNat (0, 0))) := by rw [← ers]; exact H4
      have mm4 : Mv z z (fun i => i = 3 ∨ i = 10) w w4 := (mm3.no f33).trans m4 (fun _ e => e) (fun _ e => .inl e)
      refine Sd_intro (by have := H4.tab; unfold heapL at this; rw [hr] at this; exact this) ?_
      have hT4 : Blk w4 hb t_heap_Heap (cfgL c ++ geoC c ++ [ptr p.ab, ptr p.rb, ptr p.ob, ptr p.cb, ptr p.qb, ptr p.sb, ptr p.mb, .slice ra p.bs.length rc, .slice (some ⟨p.bf, 0, none⟩) c.c3.toNat c.c3.toNat]) := by
        have := H4.tab; unfold heapL at this; rw [hr] at this; exact this
      obtain ⟨rr, hR4, zrb, zrr⟩ := H4.regs
      have hR4 : IsReg w4 p.rb rr (P c) (rsDrop c x s.rs) := hR4
      have hrl : ((rsDrop c x s.rs).length : Int) = c.c1 := by rw [rsDrop_len]; exact h.rsl
      refine AnyC_plan T_ok mixed (planL [0,1,2,3,6,7,8,9,10,1004,5,11]) (Old w4.drew) (by kernel_rfl) (by kernel_rfl) (fun _ _ => rfl) (Kp ?_)
      refine LdS_blk (hT4.keep (Fr.drew w4) id) rfl ?_
      refine LdS_blk (hT4.keep (Fr.drew w4) id) rfl ?_
      refine ⟨?_, trivial⟩
      refine CallC_intro (region_List_spec 1 w4.drew (hR4.keep (Fr.drew w4) id id)) (fun v w5 ⟨o5, f5⟩ => ?_)
      obtain ⟨a5, c5, rfl⟩ := own_slice o5
      refine Sd_intro f5.old ?_
      have f45 := (Fr.drew w4).no f5
      have H5 := H4.mv (Mv.of (S := fun _ => False) f45) (fun _ _ => id)
      have mm5 := mm4.no f45
      refine Br_dec (fun gy => ?_) (fun gy => ?_)
      · have gy : ((idxs 1 (rsDrop c x s.rs) (rsDrop c x s.rs).length).length : Int) ≥ c.c7 := gy
        exact ⟨false, 0, _, rfl, .young hlt gy, H5, mm5⟩
      have gy : ¬ ((idxs 1 (rsDrop c x s.rs) (rsDrop c x s.rs).length).length : Int) ≥ c.c7 := gy
      have hT5 := hT4.keep f45 id
      have hR5 := hR4.keep f45 id id
      refine LdC_blk hT5 rfl ?_
      refine CallC_intro (Claim_spec 1 w5 hR5 ⟨by decide, by decide⟩) (fun v w6 ⟨rs', hc, hR6, f6⟩ => ?_)
      have m6 : Mv z z (· = 3) w5 w6 := Mv.ofZ f6 (fun k _ e => by rw [e]; exact zrr)
      have mm6 : Mv z z (fun i => i = 3 ∨ i = 10) w w6 := mm5.trans m6 (fun _ e => e) (fun _ e => .inl e)
      rcases hc with ⟨k, y, hk, y0, hfirst, rfl, rfl⟩ | ⟨hall, rfl, rfl⟩
      · have hkl : k < (rsDrop c x s.rs).length := (List.getElem?_eq_some_iff.1 hk).1
        have hkP : (k : Int) * P c + P c ≤ c.c1 * P c := by
          have : ((k : Int) + 1) * P c ≤ c.c1 * P c := Int.mul_le_mul_of_nonneg_right (by omega) (by omega)
          rw [Int.add_mul, Int.one_mul] at this; exact this
        have hkP0 : 0 ≤ (k : Int) * P c := Int.mul_nonneg (by omega) (by omega)
        have hrl6 : (((rsDrop c x s.rs).set k (1, y.2)).length : Int) = c.c1 := by rw [List.length_set]; exact hrl
        have H6 := H5.setRegs m6 ⟨rr, hR6, zrb, zrr⟩ hrl6
        have hT6 : Blk w6 hb t_heap_Heap (cfgL c ++ geoC c ++ [ptr p.ab, ptr p.rb, ptr p.ob, ptr p.cb, ptr p.qb, ptr p.sb, ptr p.mb, .slice ra p.bs.length rc, .slice (some ⟨p.bf, 0, none⟩) c.c3.toNat c.c3.toNat]) := by
          have := H6.tab; unfold heapL at this; rw [hr] at this; exact this
        refine LdN_blk (vs := geoC c) hT6 rfl rfl ?_
        refine CallC_intro (Base_spec (c.c1 * P c) (Q c) c.c1 (c.c1 * P c / Q c) (min 1048576 (c.c1 * P c - P c)) (k : Int) c.c0.toNat (by omega) (show c.c1 * P c ≤ 4194304 by omega) w6) (fun v w7 ⟨hv, f7⟩ => ?_)
        rw [if_neg (by omega)] at hv
        subst hv
        have H7 := H6.mv (Mv.of (S := fun _ => False) f7) (fun _ _ => id)
        have hT7 := hT6.keep f7 id
        have hR7 := hR6.keep f7 id id
        refine AnyC_plan T_ok mixed (planO [0,1,2,3,4,5,6,7,8,9,10,11,1012]) (fun w' => Blk w' hb t_heap_Heap (cfgL c ++ geoC c ++ [ptr p.ab, ptr p.rb, ptr p.ob, ptr p.cb, ptr p.qb, ptr p.sb, ptr p.mb, .slice ra p.bs.length rc, .slice (some ⟨p.bf, 0, none⟩) c.c3.toNat c.c3.toNat])) (by kernel_rfl) (by kernel_rfl) (hT7.keep (Fr.drew w7) id) (Kp ?_)
        refine LdS_of (fun w' hw => hw) rfl ?_
        refine LdS_of (fun w' hw => hw) rfl ?_
        refine ⟨?_, trivial⟩
        have ew : IntKind.i64.wrap ((k : Int) * P c + P c) = (k : Int) * P c + P c := wrap_i64 (by omega) (by omega)
        have f7d := f7.no (Fr.drew w7)
        have H7d := H6.mv (Mv.of (S := fun _ => False) f7d) (fun _ _ => id)
        have hR7d := hR6.keep f7d id id
        have hST := SetTop_spec (k : Int) ((k : Int) * P c + P c) w7.drew hR7d
        rw [← ew] at hST
        refine CallC_intro hST (fun v w8 ⟨hv, hR8, f8⟩ => ?_)
        rw [ew] at hR8
        subst hv
        have eST : (setTopF (P c) (k : Int) ((k : Int) * P c + P c) ((rsDrop c x s.rs).set k (1, y.2))).2 = (rsDrop c x s.rs).set k (1, P c, y.2.2) := by
          have e1 : rget ((rsDrop c x s.rs).set k (1, y.2)) (k : Int) = some (1, y.2) := by
            unfold rget
            rw [if_pos (by omega), Int.toNat_natCast, List.getElem?_set_self hkl]
          unfold setTopF
          rw [e1]
          simp only
          rw [if_neg (by rw [Int.add_mul, Int.one_mul]; omega), if_pos (by unfold plainP; decide), Int.toNat_natCast, List.set_set]
          show (rsDrop c x s.rs).set k ((1 : Int), (k : Int) * P c + P c - (k : Int) * P c, y.2.2) = _
          rw [show (k : Int) * P c + P c - (k : Int) * P c = P c by omega]
        rw [eST] at hR8
        have m8 : Mv z z (· = 3) w7.drew w8 := Mv.ofZ f8 (fun k _ e => by rw [e]; exact zrr)
        have H8 := H7d.setRegs m8 ⟨rr, hR8, zrb, zrr⟩ (by rw [List.length_set]; exact hrl)
        have mm8 : Mv z z (fun i => i = 3 ∨ i = 10) w w8 := (mm6.no f7d).trans m8 (fun _ e => e) (fun _ e => .inl e)
        have hT8 : Blk w8 hb t_heap_Heap (cfgL c ++ geoC c ++ [ptr p.ab, ptr p.rb, ptr p.ob, ptr p.cb, ptr p.qb, ptr p.sb, ptr p.mb, .slice ra p.bs.length rc, .slice (some ⟨p.bf, 0, none⟩) c.c3.toNat c.c3.toNat]) := by
          have := H8.tab; unfold heapL at this; rw [hr] at this; exact this
        refine Sd_intro hT8 ?_
        refine LdC_blk hT8 rfl ?_
        have hBN := buffer_New_spec ((k : Int) * P c) ((k : Int) * P c + P c) w8 hkP0 (by omega) (by omega)
        rw [← ew] at hBN
        refine CallC_intro hBN (fun v w9 ⟨hv, f9⟩ => ?_)
        rw [ew] at hv
        subst hv
        have H9 := H8.mv (Mv.of (S := fun _ => False) f9) (fun _ _ => id)
        have hx9 : (s.bufs.set t.toNat (0, 0))[t.toNat]? = some ((0 : Int), (0 : Int)) := List.getElem?_set_self tl
        have hbl9 : (bufL (s.bufs.set t.toNat (0, 0))).length = 2 * s.bufs.length := by
          rw [bufL_len, List.length_set]
        refine StN_idx (vs := [.int .i64 ((k : Int) * P c), .int .i64 ((k : Int) * P c + P c)]) H9.bufr rfl (show 0 + t.toNat * 2 + 2 ≤ (bufL (s.bufs.set t.toNat (0, 0))).length by rw [hbl9]; omega) (fun w10 h10 f10 _ => ?_)
        have h10 : Blk w10 p.bf t_buffer_Buffer (bufSet (bufL (s.bufs.set t.toNat (0, 0))) (0 + t.toNat * 2) ((k : Int) * P c) ((k : Int) * P c + P c)) := h10
        rw [bufL_both hx9, List.set_set] at h10
        have m10 : Mv z z (· = 10) w9 w10 := Mv.ofZ f10 (fun k _ e => by rw [e]; exact H9.bufz)
        have H10 := H9.setBuf m10 h10 (by rw [List.length_set]; exact hbl)
        have hx10 : (s.bufs.set t.toNat ((k : Int) * P c, (k : Int) * P c + P c))[t.toNat]? = some ((k : Int) * P c, (k : Int) * P c + P c) := List.getElem?_set_self tl
        have TK := Take_spec n w10 (H10.buf hx10) ⟨hkP0, (show (k : Int) * P c ≤ 4194304 by omega), (show 0 ≤ (k : Int) * P c + P c by omega), (show (k : Int) * P c + P c ≤ 4194304 by omega)⟩ hn (show n ≤ (k : Int) * P c + P c - (k : Int) * P c by omega)
        rw [ea] at TK
        refine CallC_intro TK (fun v w11 ⟨hv, hB11, f11⟩ => ?_)
        subst hv
        have hB11 := hB11.blk
        have hB11 : Blk w11 p.bf t_buffer_Buffer ((bufL (s.bufs.set t.toNat ((k : Int) * P c, (k : Int) * P c + P c))).set (0 + t.toNat * 2) (.int .i64 ((k : Int) * P c + n))) := hB11
        rw [bufL_set1 hx10, List.set_set] at hB11
        have m11 : Mv z z (· = 10) w10 w11 := Mv.ofZ f11 (fun k _ e => by rw [e]; exact H10.bufz)
        have H11 := H10.setBuf m11 hB11 (by rw [List.length_set]; exact hbl)
        have mm11 : Mv z z (fun i => i = 3 ∨ i = 10) w w11 := ((mm8.no f9).trans m10 (fun _ e => e) (fun _ e => .inr e)).trans m11 (fun _ e => e) (fun _ e => .inr e)
        exact ⟨true, (k : Int) * P c, _, rfl, .claim k y hlt (by omega) hk y0 hfirst, H11, mm11⟩
      · have H6 := H5.setRegs m6 ⟨rr, hR6, zrb, zrr⟩ hrl
        exact ⟨false, 0, _, rfl, .full hlt (by omega) hall, H6, mm6⟩
    · have g : ¬ x.1 < x.2 := g
      have ers : s.rs = rsDrop c x s.rs := by unfold rsDrop; rw [if_neg g]
      obtain ⟨w4, hw4⟩ : ∃ w4, w4 = w3 := ⟨w3, rfl⟩
      have H4 : HeapAt w4 z c hb p ((s.regs (rsDrop c x s.rs)).buf (s.bufs.set t.toNat (0, 0))) := by rw [← ers, hw4]; exact H3
      have mm4 : Mv z z (fun i => i = 3 ∨ i = 10) w w4 := by rw [hw4]; exact mm3
      rw [← hw4]
      have hT4 : Blk w4 hb t_heap_Heap (cfgL c ++ geoC c ++ [ptr p.ab, ptr p.rb, ptr p.ob, ptr p.cb, ptr p.qb, ptr p.sb, ptr p.mb, .slice ra p.bs.length rc, .slice (some ⟨p.bf, 0, none⟩) c.c3.toNat c.c3.toNat]) := by
        have := H4.tab; unfold heapL at this; rw [hr] at this; exact this
      obtain ⟨rr, hR4, zrb, zrr⟩ := H4.regs
      have hR4 : IsReg w4 p.rb rr (P c) (rsDrop c x s.rs) := hR4
      have hrl : ((rsDrop c x s.rs).length : Int) = c.c1 := by rw [rsDrop_len]; exact h.rsl
      refine AnyC_plan T_ok mixed (planL [0,1,2,3,6,7,8,9,10,1004,5,11]) (Old w4.drew) (by kernel_rfl) (by kernel_rfl) (fun _ _ => rfl) (Kp ?_)
      refine LdS_blk (hT4.keep (Fr.drew w4) id) rfl ?_
      refine LdS_blk (hT4.keep (Fr.drew w4) id) rfl ?_
      refine ⟨?_, trivial⟩
      refine CallC_intro (region_List_spec 1 w4.drew (hR4.keep (Fr.drew w4) id id)) (fun v w5 ⟨o5, f5⟩ => ?_)
      obtain ⟨a5, c5, rfl⟩ := own_slice o5
      refine Sd_intro f5.old ?_
      have f45 := (Fr.drew w4).no f5
      have H5 := H4.mv (Mv.of (S := fun _ => False) f45) (fun _ _ => id)
      have mm5 := mm4.no f45
      refine Br_dec (fun gy => ?_) (fun gy => ?_)
      · have gy : ((idxs 1 (rsDrop c x s.rs) (rsDrop c x s.rs).length).length : Int) ≥ c.c7 := gy
        exact ⟨false, 0, _, rfl, .young hlt gy, H5, mm5⟩
      have gy : ¬ ((idxs 1 (rsDrop c x s.rs) (rsDrop c x s.rs).length).length : Int) ≥ c.c7 := gy
      have hT5 := hT4.keep f45 id
      have hR5 := hR4.keep f45 id id
      refine LdC_blk hT5 rfl ?_
      refine CallC_intro (Claim_spec 1 w5 hR5 ⟨by decide, by decide⟩) (fun v w6 ⟨rs', hc, hR6, f6⟩ => ?_)
      have m6 : Mv z z (· = 3) w5 w6 := Mv.ofZ f6 (fun k _ e => by rw [e]; exact zrr)
      have mm6 : Mv z z (fun i => i = 3 ∨ i = 10) w w6 := mm5.trans m6 (fun _ e => e) (fun _ e => .inl e)
      rcases hc with ⟨k, y, hk, y0, hfirst, rfl, rfl⟩ | ⟨hall, rfl, rfl⟩
      · have hkl : k < (rsDrop c x s.rs).length := (List.getElem?_eq_some_iff.1 hk).1
        have hkP : (k : Int) * P c + P c ≤ c.c1 * P c := by
          have : ((k : Int) + 1) * P c ≤ c.c1 * P c := Int.mul_le_mul_of_nonneg_right (by omega) (by omega)
          rw [Int.add_mul, Int.one_mul] at this; exact this
        have hkP0 : 0 ≤ (k : Int) * P c := Int.mul_nonneg (by omega) (by omega)
        have hrl6 : (((rsDrop c x s.rs).set k (1, y.2)).length : Int) = c.c1 := by rw [List.length_set]; exact hrl
        have H6 := H5.setRegs m6 ⟨rr, hR6, zrb, zrr⟩ hrl6
        have hT6 : Blk w6 hb t_heap_Heap (cfgL c ++ geoC c ++ [ptr p.ab, ptr p.rb, ptr p.ob, ptr p.cb, ptr p.qb, ptr p.sb, ptr p.mb, .slice ra p.bs.length rc, .slice (some ⟨p.bf, 0, none⟩) c.c3.toNat c.c3.toNat]) := by
          have := H6.tab; unfold heapL at this; rw [hr] at this; exact this
        refine LdN_blk (vs := geoC c) hT6 rfl rfl ?_
        refine CallC_intro (Base_spec (c.c1 * P c) (Q c) c.c1 (c.c1 * P c / Q c) (min 1048576 (c.c1 * P c - P c)) (k : Int) c.c0.toNat (by omega) (show c.c1 * P c ≤ 4194304 by omega) w6) (fun v w7 ⟨hv, f7⟩ => ?_)
        rw [if_neg (by omega)] at hv
        subst hv
        have H7 := H6.mv (Mv.of (S := fun _ => False) f7) (fun _ _ => id)
        have hT7 := hT6.keep f7 id
        have hR7 := hR6.keep f7 id id
        refine AnyC_plan T_ok mixed (planO [0,1,2,3,4,5,6,7,8,9,10,11,1012]) (fun w' => Blk w' hb t_heap_Heap (cfgL c ++ geoC c ++ [ptr p.ab, ptr p.rb, ptr p.ob, ptr p.cb, ptr p.qb, ptr p.sb, ptr p.mb, .slice ra p.bs.length rc, .slice (some ⟨p.bf, 0, none⟩) c.c3.toNat c.c3.toNat])) (by kernel_rfl) (by kernel_rfl) (hT7.keep (Fr.drew w7) id) (Kp ?_)
        refine LdS_of (fun w' hw => hw) rfl ?_
        refine LdS_of (fun w' hw => hw) rfl ?_
        refine ⟨?_, trivial⟩
        have ew : IntKind.i64.wrap ((k : Int) * P c + P c) = (k : Int) * P c + P c := wrap_i64 (by omega) (by omega)
        have f7d := f7.no (Fr.drew w7)
        have H7d := H6.mv (Mv.of (S := fun _ => False) f7d) (fun _ _ => id)
        have hR7d := hR6.keep f7d id id
        have hST := SetTop_spec (k : Int) ((k : Int) * P c + P c) w7.drew hR7d
        rw [← ew] at hST
        refine CallC_intro hST (fun v w8 ⟨hv, hR8, f8⟩ => ?_)
        rw [ew] at hR8
        subst hv
        have eST : (setTopF (P c) (k : Int) ((k : Int) * P c + P c) ((rsDrop c x s.rs).set k (1, y.2))).2 = (rsDrop c x s.rs).set k (1, P c, y.2.2) := by
          have e1 : rget ((rsDrop c x s.rs).set k (1, y.2)) (k : Int) = some (1, y.2) := by
            unfold rget
            rw [if_pos (by omega), Int.toNat_natCast, List.getElem?_set_self hkl]
          unfold setTopF
          rw [e1]
          simp only
          rw [if_neg (by rw [Int.add_mul, Int.one_mul]; omega), if_pos (by unfold plainP; decide), Int.toNat_natCast, List.set_set]
          show (rsDrop c x s.rs).set k ((1 : Int), (k : Int) * P c + P c - (k : Int) * P c, y.2.2) = _
          rw [show (k : Int) * P c + P c - (k : Int) * P c = P c by omega]
        rw [eST] at hR8
        have m8 : Mv z z (· = 3) w7.drew w8 := Mv.ofZ f8 (fun k _ e => by rw [e]; exact zrr)
        have H8 := H7d.setRegs m8 ⟨rr, hR8, zrb, zrr⟩ (by rw [List.length_set]; exact hrl)
        have mm8 : Mv z z (fun i => i = 3 ∨ i = 10) w w8 := (mm6.no f7d).trans m8 (fun _ e => e) (fun _ e => .inl e)
        have hT8 : Blk w8 hb t_heap_Heap (cfgL c ++ geoC c ++ [ptr p.ab, ptr p.rb, ptr p.ob, ptr p.cb, ptr p.qb, ptr p.sb, ptr p.mb, .slice ra p.bs.length rc, .slice (some ⟨p.bf, 0, none⟩) c.c3.toNat c.c3.toNat]) := by
          have := H8.tab; unfold heapL at this; rw [hr] at this; exact this
        refine Sd_intro hT8 ?_
        refine LdC_blk hT8 rfl ?_
        have hBN := buffer_New_spec ((k : Int) * P c) ((k : Int) * P c + P c) w8 hkP0 (by omega) (by omega)
        rw [← ew] at hBN
        refine CallC_intro hBN (fun v w9 ⟨hv, f9⟩ => ?_)
        rw [ew] at hv
        subst hv
        have H9 := H8.mv (Mv.of (S := fun _ => False) f9) (fun _ _ => id)
        have hx9 : (s.bufs.set t.toNat (0, 0))[t.toNat]? = some ((0 : Int), (0 : Int)) := List.getElem?_set_self tl
        have hbl9 : (bufL (s.bufs.set t.toNat (0, 0))).length = 2 * s.bufs.length := by
          rw [bufL_len, List.length_set]
        refine StN_idx (vs := [.int .i64 ((k : Int) * P c), .int .i64 ((k : Int) * P c + P c)]) H9.bufr rfl (show 0 + t.toNat * 2 + 2 ≤ (bufL (s.bufs.set t.toNat (0, 0))).length by rw [hbl9]; omega) (fun w10 h10 f10 _ => ?_)
        have h10 : Blk w10 p.bf t_buffer_Buffer (bufSet (bufL (s.bufs.set t.toNat (0, 0))) (0 + t.toNat * 2) ((k : Int) * P c) ((k : Int) * P c + P c)) := h10
        rw [bufL_both hx9, List.set_set] at h10
        have m10 : Mv z z (· = 10) w9 w10 := Mv.ofZ f10 (fun k _ e => by rw [e]; exact H9.bufz)
        have H10 := H9.setBuf m10 h10 (by rw [List.length_set]; exact hbl)
        have hx10 : (s.bufs.set t.toNat ((k : Int) * P c, (k : Int) * P c + P c))[t.toNat]? = some ((k : Int) * P c, (k : Int) * P c + P c) := List.getElem?_set_self tl
        have TK := Take_spec n w10 (H10.buf hx10) ⟨hkP0, (show (k : Int) * P c ≤ 4194304 by omega), (show 0 ≤ (k : Int) * P c + P c by omega), (show (k : Int) * P c + P c ≤ 4194304 by omega)⟩ hn (show n ≤ (k : Int) * P c + P c - (k : Int) * P c by omega)
        rw [ea] at TK
        refine CallC_intro TK (fun v w11 ⟨hv, hB11, f11⟩ => ?_)
        subst hv
        have hB11 := hB11.blk
        have hB11 : Blk w11 p.bf t_buffer_Buffer ((bufL (s.bufs.set t.toNat ((k : Int) * P c, (k : Int) * P c + P c))).set (0 + t.toNat * 2) (.int .i64 ((k : Int) * P c + n))) := hB11
        rw [bufL_set1 hx10, List.set_set] at hB11
        have m11 : Mv z z (· = 10) w10 w11 := Mv.ofZ f11 (fun k _ e => by rw [e]; exact H10.bufz)
        have H11 := H10.setBuf m11 hB11 (by rw [List.length_set]; exact hbl)
        have mm11 : Mv z z (fun i => i = 3 ∨ i = 10) w w11 := ((mm8.no f9).trans m10 (fun _ e => e) (fun _ e => .inr e)).trans m11 (fun _ e => e) (fun _ e => .inr e)
        exact ⟨true, (k : Int) * P c, _, rfl, .claim k y hlt (by omega) hk y0 hfirst, H11, mm11⟩
      · have H6 := H5.setRegs m6 ⟨rr, hR6, zrb, zrr⟩ hrl
        exact ⟨false, 0, _, rfl, .full hlt (by omega) hall, H6, mm6⟩
  · have TS := Take_spec n w1.drew B1 ⟨hxb.1, hxb.2.1, hxb.2.2.1, hxb.2.2.2⟩ hn hge
    rw [ea] at TS
    refine CallC_intro TS (fun v w2 ⟨hv, hB2, f2⟩ => ?_)
    subst hv
    have hB2 := hB2.blk
    rw [bufL_set1 hx] at hB2
    have m2 : Mv z z (· = 10) w1.drew w2 := Mv.ofZ f2 (fun k _ e => by rw [e]; exact H1.bufz)
    have H2 := H1.setBuf m2 hB2 (by rw [List.length_set]; exact hbl)
    exact ⟨true, x.1, _, rfl, .take hge, H2, (Mv.of (S := fun _ => False) f1d).trans m2 (fun _ e => e.elim) (fun _ e => .inr e)⟩
end Go.Proofs.YtdhbpklmkibmbaaGreat
/- Layer 15 (mutate): an allocation's first step, of what isn't big. -/
namespace Go.Proofs.YtdhbpklmkibmbaaGreat
open Go.Vc

theorem alloc_fresh {c : Cfg} {p : HP} {hb sh mb : Nat} {z : Nat → Nat} {s : HS} {t : Int} {m : Mu} {x : Int × Int} {l : List Int} (w : World) (h : HeapAt w z c hb p s) (hm : Blk w mb t_mutate_Mutator (mutL hb sh t m)) (h0 : 0 ≤ t) (hx : s.bufs[t.toNat]? = some x)
    (hz : z mb = 500 + t.toNat) (hl : s.refs[t.toNat]? = some l) (hph : m.phase ≠ 5) (hsz : sizeE (min 1048576 (c.c1 * P c - P c)) m.a m.b (c.c4 - l.length) = 0) (hn2 : 1 + m.a + m.b ≤ P c / 2) (hxb : 0 ≤ x.1 ∧ x.1 ≤ 4194304 ∧ 0 ≤ x.2 ∧ x.2 ≤ 4194304) (hxr : x.1 < x.2 → x.1 < c.c1 * P c) :
    CallC Pr f_mutate_Mutator_alloc [ptr mb] w (fun r w' => ∃ ok pos s' z', Placed c t.toNat (1 + m.a + m.b) x s ok pos s' ∧ HeapAt w' z' c hb p s' ∧ Mv z z' (fun i => i = 3 ∨ i = 10 ∨ i = 500 + t.toNat) w w' ∧
      r = .agg (resL ans0 false true (!ok) (.slice none 0 0)).toArray ∧ Blk w' mb t_mutate_Mutator (mutL hb sh t ⟨m.done, if ok then 5 else 6, m.k, m.a, m.b, m.c, m.v, if ok then pos else m.pos⟩)) := by
  have hp := P_le h.ok
  have hbl := h.bufl
  have tl := (List.getElem?_eq_some_iff.1 hx).1
  have ht : t < (p.bs.length : Int) := by have := h.bsl; omega
  have hab : 0 ≤ m.a ∧ 0 ≤ m.b := by
    unfold sizeE at hsz
    split at hsz
    · cases hsz
    · omega
  refine call_sound T_ok fun_mutate_Mutator_alloc rfl (by kernel_rfl) rfl (Kp ?_)
  refine NewC_blk (fun q w1 hq h1 f1 s1 => ?_)
  have h1 : Blk w1 q t_mutate_Result res0 := h1
  have m1 : Mv z (zput z q 9999) (fun _ => False) w w1 := (Mv.of f1).put (by omega)
  obtain ⟨z1, zq, m1⟩ : ∃ z1 : Nat → Nat, z1 q = 9999 ∧ Mv z z1 (fun _ => False) w w1 := ⟨_, zput_self, m1⟩
  have hmz1 := hm.mv hz m1 id
  have H1 := h.mv m1 (fun _ _ => id)
  refine LdC_blk hmz1.1 rfl ?_
  refine Br_nt hph ?_
  refine CallC_intro (size_spec w1 H1 hmz1.1 h0 ht hl) (fun v w2 ⟨hv, f2⟩ => ?_)
  rw [hsz] at hv
  subst hv
  have H2 := H1.mv (Mv.of (S := fun _ => False) f2) (fun _ _ => id)
  have hm2 := hmz1.1.keep f2 id
  refine AnyC_lex T_ok mixed (by kernel_rfl) (by kernel_rfl) (Kp ?_)
  refine LdS_blk hm2 rfl ?_
  refine LdS_blk hm2 rfl ?_
  have f2d := f2.no (Fr.drew w2)
  have H2 := H1.mv (Mv.of (S := fun _ => False) f2d) (fun _ _ => id)
  have hm2 := hmz1.1.keep f2d id
  have h12 := h1.keep f2d id
  refine LdC_blk hm2 rfl ?_
  refine Br_nt hph ?_
  have ew : IntKind.i64.wrap (IntKind.i64.wrap (1 + m.a) + m.b) = 1 + m.a + m.b := by
    rw [wrap_i64 (n := 1 + m.a) (by omega) (by omega), wrap_i64 (by omega) (by omega)]
  have hPl := place_spec (1 + m.a + m.b) w2.drew H2 hm2 h0 hx (by rw [hmz1.2]; omega) (by omega) hn2 hxb hxr
  rw [← ew] at hPl
  refine CallC_intro hPl (fun v w3 ⟨ok, pos, s', hv, hP, H3, m3⟩ => ?_)
  rw [ew] at hP
  subst hv
  have M3 : Mv z z1 (fun i => i = 3 ∨ i = 10 ∨ i = 500 + t.toNat) w w3 := (m1.no f2d).trans m3 (fun _ e => e.elim) (fun _ e => by rcases e with e | e; exact .inl e; exact .inr (.inl e))
  have hm3 := hm2.mv hmz1.2 m3 (fun e => by rcases e with e | e <;> omega)
  have h13 := h12.mv zq m3 (fun e => by rcases e with e | e <;> cases e)
  have nq : q ≠ mb := by have := hm.lt; omega
  cases ok with
  | false =>
    refine StC_blk hm3.1 rfl rfl (fun w4 h4 f4 _ => ?_)
    have m4 : Mv z1 z1 (· = 500 + t.toNat) w3 w4 := Mv.ofZ f4 (fun k _ e => by rw [e]; exact hm3.2)
    have H4 := H3.mv m4 (fun i hi e => by omega)
    have h14 := h13.1.keep f4 nq
    refine StN_blk h14 rfl (Nat.le_of_ble_eq_true rfl) (fun w5 h5 f5 _ => ?_)
    have h5 : Blk w5 q t_mutate_Result (resL ans0 false true true (.slice none 0 0)) := h5
    have m5 : Mv z1 z1 (· = 9999) w4 w5 := Mv.ofZ f5 (fun k _ e => by rw [e]; exact zq)
    have H5 := H4.mv m5 (fun i hi e => by omega)
    refine LdN_blk (vs := resL ans0 false true true (.slice none 0 0)) h5 rfl rfl ?_
    exact ⟨false, pos, s', z1, hP, H5, (M3.trans m4 (fun _ e => e) (fun _ e => .inr (.inr e))).new f5 (fun k e => by have e : k = q := e; omega), rfl, h4.keep f5 nq.symm⟩
  | true =>
    refine StC_blk hm3.1 rfl rfl (fun w4 h4 f4 _ => ?_)
    have h4 : Blk w4 mb t_mutate_Mutator (mutL hb sh t ⟨m.done, m.phase, m.k, m.a, m.b, m.c, m.v, pos⟩) := h4
    have m4 : Mv z1 z1 (· = 500 + t.toNat) w3 w4 := Mv.ofZ f4 (fun k _ e => by rw [e]; exact hm3.2)
    have H4 := H3.mv m4 (fun i hi e => by omega)
    have h14 := h13.1.keep f4 nq
    refine CallC_intro (on_spec 5 w4 h4) (fun v w5 ⟨hv, h5, f5⟩ => ?_)
    subst hv
    have m5 : Mv z1 z1 (· = 500 + t.toNat) w4 w5 := Mv.ofZ f5 (fun k _ e => by rw [e]; exact hm3.2)
    have H5 := H4.mv m5 (fun i hi e => by omega)
    have h15 := h14.keep f5 nq
    refine StN_blk h15 rfl (Nat.le_of_ble_eq_true rfl) (fun w6 h6 f6 _ => ?_)
    have h6 : Blk w6 q t_mutate_Result (resL ans0 false true false (.slice none 0 0)) := h6
    have m6 : Mv z1 z1 (· = 9999) w5 w6 := Mv.ofZ f6 (fun k _ e => by rw [e]; exact zq)
    have H6 := H5.mv m6 (fun i hi e => by omega)
    refine LdN_blk (vs := resL ans0 false true false (.slice none 0 0)) h6 rfl rfl ?_
    exact ⟨true, pos, s', z1, hP, H6, ((M3.trans m4 (fun _ e => e) (fun _ e => .inr (.inr e))).trans m5 (fun _ e => e) (fun _ e => .inr (.inr e))).new f6 (fun k e => by have e : k = q := e; omega), rfl, h5.keep f6 nq.symm⟩
end Go.Proofs.YtdhbpklmkibmbaaGreat
/- Layer 15 (mutate): an allocation's second step, of what isn't big. -/
namespace Go.Proofs.YtdhbpklmkibmbaaGreat
open Go.Vc

/-- The arena behind Make. -/
def made (ws : List Int) (pos size ptrs : Int) : List Int := (zeroed ws pos.toNat size.toNat).set pos.toNat (headW size ptrs 0)
theorem alloc_placed {c : Cfg} {p : HP} {hb sh mb : Nat} {z : Nat → Nat} {s : HS} {t : Int} {m : Mu} {l : List Int} (w : World) (h : HeapAt w z c hb p s) (hm : Blk w mb t_mutate_Mutator (mutL hb sh t m)) (h0 : 0 ≤ t) (ht : t < (p.bs.length : Int))
    (hz : z mb = 500 + t.toNat) (hl : s.refs[t.toNat]? = some l) (hph : m.phase = 5) (ha : 0 ≤ m.a) (hb0 : 0 ≤ m.b) (hn2 : 1 + m.a + m.b ≤ P c / 2) (hp0 : 0 ≤ m.pos) (hp1 : m.pos + (1 + m.a + m.b) ≤ c.c1 * P c) :
    CallC Pr f_mutate_Mutator_alloc [ptr mb] w (fun r w' => ∃ e l' z', ((e = 0 ∧ (l.length : Int) < c.c4 ∧ l' = l ++ [m.pos + 1]) ∨ (e = 15 ∧ (l.length : Int) = c.c4 ∧ l' = l)) ∧
      HeapAt w' z' c hb p { s with acc := IntKind.i64.wrap (s.acc + 1), ws := made s.ws m.pos (1 + m.a + m.b) m.a, refs := s.refs.set t.toNat l' } ∧ Mv z z' (fun i => i = 2 ∨ i = 100 + t.toNat ∨ i = 500 + t.toNat) w w' ∧
      r = .agg (resL (ansL t m.done e 0 false) true false false (.slice none 0 0)).toArray ∧ Blk w' mb t_mutate_Mutator (mutL hb sh t ⟨IntKind.i64.wrap (m.done + 1), 0, m.k, m.a, m.b, m.c, m.v, m.pos⟩)) := by
  have hp := P_le h.ok
  have c3 := h.c3
  have hbsl := h.bsl
  obtain ⟨ra, rc, hr, hT⟩ := h.cells
  refine call_sound T_ok fun_mutate_Mutator_alloc rfl (by kernel_rfl) rfl (Kp ?_)
  refine NewC_blk (fun q w1 hq h1 f1 s1 => ?_)
  have h1 : Blk w1 q t_mutate_Result res0 := h1
  have m1 : Mv z (zput z q 9999) (fun _ => False) w w1 := (Mv.of f1).put (by omega)
  obtain ⟨z1, zq, m1⟩ : ∃ z1 : Nat → Nat, z1 q = 9999 ∧ Mv z z1 (fun _ => False) w w1 := ⟨_, zput_self, m1⟩
  have hmz1 := hm.mv hz m1 id
  refine LdC_blk hmz1.1 rfl ?_
  refine Br_nf hph ?_
  refine AnyC_lex T_ok mixed (by kernel_rfl) (by kernel_rfl) (Kp ?_)
  refine LdS_blk hmz1.1 rfl ?_
  refine LdS_blk hmz1.1 rfl ?_
  have f1d := Fr.drew w1
  have H2 := (h.mv m1 (fun _ _ => id)).mv (Mv.of (S := fun _ => False) f1d) (fun _ _ => id)
  have hm2 := hmz1.1.keep f1d id
  have hT2 := (hT.keep f1 id).keep f1d id
  have h12 := h1.keep f1d id
  refine LdC_blk hm2 rfl ?_
  refine Br_nf hph ?_
  have ew : IntKind.i64.wrap (IntKind.i64.wrap (1 + m.a) + m.b) = 1 + m.a + m.b := by
    rw [wrap_i64 (n := 1 + m.a) (by omega) (by omega), wrap_i64 (by omega) (by omega)]
  obtain ⟨ar, hA, za, zr⟩ := H2.arena
  have hwl := h.wsl
  refine AnyC_plan T_ok mixed (planO [0,1,2,3,4,5,6,7,8,9,10,11,12,13,14,15,16,1017]) (fun w' => Blk w' hb t_heap_Heap (cfgL c ++ geoC c ++ [ptr p.ab, ptr p.rb, ptr p.ob, ptr p.cb, ptr p.qb, ptr p.sb, ptr p.mb, .slice ra p.bs.length rc, .slice (some ⟨p.bf, 0, none⟩) c.c3.toNat c.c3.toNat]) ∧ Blk w' mb t_mutate_Mutator (mutL hb sh t m)) (by kernel_rfl) (by kernel_rfl) ⟨hT2.keep (Fr.drew _) id, hm2.keep (Fr.drew _) id⟩ (Kp ?_)
  refine LdS_of (fun w' hw => hw.2) rfl ?_
  refine LdS_of (fun w' hw => hw.1) rfl ?_
  refine LdS_of (fun w' hw => hw.2) rfl ?_
  refine LdS_of (fun w' hw => hw.2) rfl ?_
  refine ⟨?_, trivial⟩
  have hMk := Make_spec m.pos (1 + m.a + m.b) m.a w1.drew.drew (hA.keep (Fr.drew _) id id) hp0 (by omega) (by omega) ha (by omega) (by omega)
  rw [← ew] at hMk
  refine CallC_intro hMk (fun v w3 ⟨hv, hA3, f3⟩ => ?_)
  rw [ew] at hA3
  subst hv
  have m3 : Mv z1 z1 (· = 2) w1.drew.drew w3 := Mv.ofZ f3 (fun k _ e => by rcases e with e | e <;> rw [e]; exact za; exact zr)
  have H2d := H2.mv (Mv.of (S := fun _ => False) (Fr.drew w1.drew)) (fun _ _ => id)
  have H3 := H2d.setArena m3 ⟨ar, hA3, za, zr⟩ (by rw [List.length_set, zeroed_len])
  have hm3 : Blk w3 mb t_mutate_Mutator (mutL hb sh t m) := (hm2.keep (Fr.drew _) id).keep m3.fr (by rw [hmz1.2]; omega)
  have hT3 : Blk w3 hb t_heap_Heap (cfgL c ++ geoC c ++ [ptr p.ab, ptr p.rb, ptr p.ob, ptr p.cb, ptr p.qb, ptr p.sb, ptr p.mb, .slice ra p.bs.length rc, .slice (some ⟨p.bf, 0, none⟩) c.c3.toNat c.c3.toNat]) := by
    have := H3.tab; unfold heapL at this; rw [hr] at this; exact this
  have h13 : Blk w3 q t_mutate_Result res0 := (h12.keep (Fr.drew _) id).keep m3.fr (by rw [zq]; decide)
  have M3 : Mv z z1 (fun i => i = 2 ∨ i = 100 + t.toNat ∨ i = 500 + t.toNat) w w3 := ((m1.no f1d).no (Fr.drew _)).trans m3 (fun _ e => e.elim) (fun _ e => .inl e)
  have nq : q ≠ mb := by have := hm.lt; omega
  refine Sd_intro ⟨hT3, hm3⟩ ?_
  refine LdC_blk hm3 rfl ?_
  refine LdN_blk (vs := geoC c) hT3 rfl rfl ?_
  have hBg := Big_spec (c.c1 * P c) (P c) (Q c) c.c1 (c.c1 * P c / Q c) (min 1048576 (c.c1 * P c - P c)) (1 + m.a + m.b) w3
  rw [decide_eq_false (show ¬ 1 + m.a + m.b > P c / 2 by omega), ← ew] at hBg
  refine CallC_intro hBg (fun v w4 ⟨hv, f4⟩ => ?_)
  subst hv
  have f4d := f4.no (Fr.drew w4)
  have H4 := H3.mv (Mv.of (S := fun _ => False) f4d) (fun _ _ => id)
  have hm4 := hm3.keep f4d id
  have h14 := h13.keep f4d id
  refine AnyC_plan T_ok mixed (planO [0,1,3,4,5,6,7,8,1002,1009,1010,1011]) (fun w' => w'.cell? ⟨mb, 10, none⟩ = some (.int .i64 m.pos)) (by kernel_rfl) (by kernel_rfl) (hm4.cell rfl) (Kp ?_)
  refine LdS_intro (fun w' hw => hw) ?_
  refine ⟨?_, trivial⟩
  refine CallC_intro (stack_spec w4.drew H4 hm4 h0 ht) (fun v w5 ⟨⟨b, hv, hbb⟩, f5⟩ => ?_)
  subst hv
  have H5 := H4.mv (Mv.of (S := fun _ => False) f5) (fun _ _ => id)
  have hm5 := hm4.keep f5 id
  have h15 := h14.keep f5 id
  refine Sd_intro (hm5.cell rfl) ?_
  refine ⟨?_, trivial⟩
  obtain ⟨sv, hS, zb, zsv⟩ := H5.stacks _ b l hbb hl
  have eu : IntKind.u64.wrap (IntKind.i64.wrap (m.pos + 1)) = m.pos + 1 := by rw [wrap_i64 (by omega) (by omega), wrap_u64 (by omega) (by omega)]
  have M5 : Mv z z1 (fun i => i = 2 ∨ i = 100 + t.toNat ∨ i = 500 + t.toNat) w w5 := (M3.no f4d).no f5
  rcases Int.lt_or_le (l.length : Int) c.c4 with hlt | hge
  · have hPu := roots_Push_spec (m.pos + 1) w5 hS hlt (by omega)
    rw [← eu] at hPu
    refine CallC_intro hPu (fun v w6 ⟨hv, sv', hS6, loc, f6⟩ => ?_)
    rw [eu] at hS6
    subst hv
    have mt : Mv z1 z1 (· = 100 + t.toNat) w5 w6 := Mv.ofZ f6 (fun k _ e => by rcases e with e | e; rw [e]; exact zb; exact zsv k e)
    have Z2 : ∃ z2 : Nat → Nat, Mv z1 z2 (· = 100 + t.toNat) w5 w6 ∧ ∀ k, sv'.ownBlock = some k → z2 k = 100 + t.toNat := by
      rcases loc with e | ⟨k, e, hk⟩
      · exact ⟨z1, mt, fun k hk => zsv k (by rw [← e]; exact hk)⟩
      · exact ⟨zput z1 k (100 + t.toNat), mt.put hk, fun k' hk' => by rw [e] at hk'; injection hk' with hk'; rw [← hk']; exact zput_self⟩
    obtain ⟨z2, m6, zo6⟩ := Z2
    have zq2 : z2 q = 9999 := (m6.zs q h15.lt).trans zq
    have zb2 : z2 b = 100 + t.toNat := (m6.zs b hS.tab.lt).trans zb
    have ZM6 : z2 mb = 500 + t.toNat := (m6.zs mb hm5.lt).trans hmz1.2
    have H6 := H5.setStack hbb m6 ⟨sv', hS6, zb2, zo6⟩
    have hm6 := hm5.keep m6.fr (by rw [hmz1.2]; omega)
    have h16 := h15.keep m6.fr (by rw [zq]; omega)
    have M6 : Mv z z2 (fun i => i = 2 ∨ i = 100 + t.toNat ∨ i = 500 + t.toNat) w w6 := M5.trans m6 (fun _ e => e) (fun _ e => .inr (.inl e))
    have hm6z : z2 mb = 500 + t.toNat := ZM6
    refine Sd_intro (hm6.cell rfl) ?_
    refine ⟨?_, trivial⟩
    refine CallC_intro (answer_spec 0 0 false w6 hm6) (fun v w7 ⟨hv, h7, f7⟩ => ?_)
    subst hv
    have m7 : Mv z2 z2 (· = 500 + t.toNat) w6 w7 := Mv.ofZ f7 (fun k _ e => by rw [e]; exact hm6z)
    have H7 := H6.mv m7 (fun i hi e => by omega)
    have h17 := h16.keep f7 nq
    refine Sd_intro (h7.cell rfl) ?_
    refine ⟨?_, trivial⟩
    refine StN_blk h17 rfl (Nat.le_of_ble_eq_true rfl) (fun w8 h8 f8 _ => ?_)
    have h8 : Blk w8 q t_mutate_Result (resL (ansL t m.done 0 0 false) true false false (.slice none 0 0)) := h8
    have m8 : Mv z2 z2 (· = 9999) w7 w8 := Mv.ofZ f8 (fun k _ e => by rw [e]; exact zq2)
    have H8 := H7.mv m8 (fun i hi e => by omega)
    have hm8 := h7.keep f8 nq.symm
    refine Sd_intro (hm8.cell rfl) ?_
    refine LdN_blk (vs := resL (ansL t m.done 0 0 false) true false false (.slice none 0 0)) h8 rfl rfl ?_
    exact ⟨0, l ++ [m.pos + 1], z2, .inl ⟨rfl, hlt, rfl⟩, H8, ((M6.trans m7 (fun _ e => e) (fun _ e => .inr (.inr e))).new f8 (fun k e => by have e : k = q := e; omega)), rfl, hm8⟩
  · have hn0 := hS.n0
    have hPu := roots_Push_full (m.pos + 1) w5 hS (by omega)
    rw [← eu] at hPu
    refine CallC_intro hPu (fun v w6 ⟨hv, f6⟩ => ?_)
    subst hv
    obtain ⟨z2, ez2⟩ : ∃ z2, z2 = z1 := ⟨z1, rfl⟩
    have zq2 : z2 q = 9999 := by rw [ez2]; exact zq
    have ZM6 : z2 mb = 500 + t.toNat := by rw [ez2]; exact hmz1.2
    have H6' := H5.mv (Mv.of (S := fun _ => False) f6) (fun _ _ => id)
    have H6 : HeapAt w6 z2 c hb p { s with acc := IntKind.i64.wrap (s.acc + 1), ws := made s.ws m.pos (1 + m.a + m.b) m.a, refs := s.refs.set t.toNat l } := by
      have e : s.refs.set t.toNat l = s.refs := by
        apply List.ext_getElem?
        intro k
        rw [List.getElem?_set]
        by_cases e : t.toNat = k
        · subst e
          rw [if_pos rfl, hl, if_pos (List.getElem?_eq_some_iff.1 hl).1]
        · rw [if_neg e]
      rw [e, ez2]; exact H6'
    have hm6 := hm5.keep f6 id
    have h16 := h15.keep f6 id
    have M6 : Mv z z2 (fun i => i = 2 ∨ i = 100 + t.toNat ∨ i = 500 + t.toNat) w w6 := by rw [ez2]; exact M5.no f6
    have hm6z : z2 mb = 500 + t.toNat := ZM6
    refine Sd_intro (hm6.cell rfl) ?_
    refine ⟨?_, trivial⟩
    refine CallC_intro (answer_spec 15 0 false w6 hm6) (fun v w7 ⟨hv, h7, f7⟩ => ?_)
    subst hv
    have m7 : Mv z2 z2 (· = 500 + t.toNat) w6 w7 := Mv.ofZ f7 (fun k _ e => by rw [e]; exact hm6z)
    have H7 := H6.mv m7 (fun i hi e => by omega)
    have h17 := h16.keep f7 nq
    refine Sd_intro (h7.cell rfl) ?_
    refine ⟨?_, trivial⟩
    refine StN_blk h17 rfl (Nat.le_of_ble_eq_true rfl) (fun w8 h8 f8 _ => ?_)
    have h8 : Blk w8 q t_mutate_Result (resL (ansL t m.done 15 0 false) true false false (.slice none 0 0)) := h8
    have m8 : Mv z2 z2 (· = 9999) w7 w8 := Mv.ofZ f8 (fun k _ e => by rw [e]; exact zq2)
    have H8 := H7.mv m8 (fun i hi e => by omega)
    have hm8 := h7.keep f8 nq.symm
    refine Sd_intro (hm8.cell rfl) ?_
    refine LdN_blk (vs := resL (ansL t m.done 15 0 false) true false false (.slice none 0 0)) h8 rfl rfl ?_
    exact ⟨15, l, z2, .inr ⟨rfl, by omega, rfl⟩, H8, ((M6.trans m7 (fun _ e => e) (fun _ e => .inr (.inr e))).new f8 (fun k e => by have e : k = q := e; omega)), rfl, hm8⟩
end Go.Proofs.YtdhbpklmkibmbaaGreat
