/- Layer 14 (heap): what a heap is in the model, part by part. -/
import Derived.Test.YthmkimnpdnmahaaVcI
import Derived.Test.YthmkimnpdnmahaaRoots
import Derived.Test.YthmkimnpdnmahaaBuffer
import Derived.Test.YthmkimnpdnmahaaQueue
import Derived.Test.YthmkimnpdnmahaaCardTab
import Derived.Test.YthmkimnpdnmahaaOffs3
import Derived.Test.YthmkimnpdnmahaaRegion7
namespace Go.Proofs.Ythmkimnpdnmahaa
open Go.Vc

section
variable {z z' : Nat → Nat} {S : Nat → Prop} {w w' : World} {i j : Nat}
def ArenaIn (w : World) (z : Nat → Nat) (i b : Nat) (acc : Int) (ws : List Int) : Prop := ∃ r, IsArena w b r acc ws ∧ z b = i ∧ z r = i
def RegIn (w : World) (z : Nat → Nat) (i b : Nat) (words : Int) (rs : List R) : Prop := ∃ r, IsReg w b r words rs ∧ z b = i ∧ z r = i
def OffsIn (w : World) (z : Nat → Nat) (i b : Nat) (words card : Int) (back : List Int) : Prop := ∃ r, IsOffs w b r words card back ∧ z b = i ∧ z r = i
def CardsIn (w : World) (z : Nat → Nat) (i t : Nat) (n : Int) (C : Nat → Bool) : Prop := ∃ b r, IsCards w t b r n C ∧ z t = i ∧ z b = i ∧ z r = i
def MarksIn (w : World) (z : Nat → Nat) (i b : Nat) (n : Int) (C : Nat → Bool) : Prop := ∃ r, IsBits w b r n C ∧ z b = i ∧ z r = i
def SetsIn (w : World) (z : Nat → Nat) (i b : Nat) (n per : Int) : Prop := ∃ m1 m2 m3 e1 c1 e2 c2 e3 c3, IsSets w b m1 m2 m3 n per ∧ MapAt w m1 e1 c1 ∧ MapAt w m2 e2 c2 ∧ MapAt w m3 e3 c3 ∧ z b = i ∧ z m1 = i ∧ z m2 = i ∧ z m3 = i
def StackIn (w : World) (z : Nat → Nat) (i b : Nat) (bound : Int) (l : List Int) : Prop := ∃ v, IsStack w b v bound l ∧ z b = i ∧ ∀ k, v.ownBlock = some k → z k = i
/-- A queue: the common row, and in zone j + t thread t's. -/
def QueueIn (w : World) (z : Nat → Nat) (i j b : Nat) (bound : Int) (common : List Int) (own : List (List Int)) : Prop :=
  ∃ r vc vs, Blk w b t_queue_Queue [.int .i64 bound, vc, .slice (some ⟨r, 0, none⟩) own.length own.length] ∧ Blk w r t_s_int vs ∧ vs.length = own.length ∧ z b = i ∧ z r = i ∧
    w.ownsRow 0 t_int 1 vc common.length (ints common) ∧ (∀ k, vc.ownBlock = some k → z k = i) ∧
    ∀ (t : Nat) (v : Value) (l : List Int), vs[t]? = some v → own[t]? = some l → w.ownsRow 0 t_int 1 v l.length (ints l) ∧ ∀ k, v.ownBlock = some k → z k = j + t
theorem own_mv {e n : Nat} {v : Value} {xs : List Value} (h : w.ownsRow 0 e 1 v n xs) (hz : ∀ k, v.ownBlock = some k → z k = i) (m : Mv z z' S w w') (hn : ¬ S i) : w'.ownsRow 0 e 1 v n xs ∧ ∀ k, v.ownBlock = some k → z' k = i :=
  ⟨own_keepV h m.fr (fun k hk => by rw [hz k hk]; exact hn), fun k hk => (m.zs k (by obtain ⟨cur, hb, _⟩ := own_blk h k hk; exact hb.lt)).trans (hz k hk)⟩
theorem ArenaIn.mv {b : Nat} {acc : Int} {ws : List Int} (h : ArenaIn w z i b acc ws) (m : Mv z z' S w w') (hn : ¬ S i) : ArenaIn w' z' i b acc ws := by
  obtain ⟨r, h, hb, hr⟩ := h
  exact ⟨r, h.keep m.fr (by rw [hb]; exact hn) (by rw [hr]; exact hn), (m.zs _ h.tab.lt).trans hb, (m.zs _ h.row.lt).trans hr⟩
theorem RegIn.mv {b : Nat} {words : Int} {rs : List R} (h : RegIn w z i b words rs) (m : Mv z z' S w w') (hn : ¬ S i) : RegIn w' z' i b words rs := by
  obtain ⟨r, h, hb, hr⟩ := h
  exact ⟨r, h.keep m.fr (by rw [hb]; exact hn) (by rw [hr]; exact hn), (m.zs _ h.tab.lt).trans hb, (m.zs _ h.row.lt).trans hr⟩
theorem OffsIn.mv {b : Nat} {words card : Int} {back : List Int} (h : OffsIn w z i b words card back) (m : Mv z z' S w w') (hn : ¬ S i) : OffsIn w' z' i b words card back := by
  obtain ⟨r, h, hb, hr⟩ := h
  exact ⟨r, h.keep m.fr (by rw [hb]; exact hn) (by rw [hr]; exact hn), (m.zs _ h.tab.lt).trans hb, (m.zs _ h.row.lt).trans hr⟩
theorem MarksIn.mv {b : Nat} {n : Int} {C : Nat → Bool} (h : MarksIn w z i b n C) (m : Mv z z' S w w') (hn : ¬ S i) : MarksIn w' z' i b n C := by
  obtain ⟨r, h, hb, hr⟩ := h
  exact ⟨r, h.keep m.fr (by rw [hb]; exact hn) (by rw [hr]; exact hn), (m.zs _ h.blt).trans hb, (m.zs _ h.rlt).trans hr⟩
theorem CardsIn.mv {t : Nat} {n : Int} {C : Nat → Bool} (h : CardsIn w z i t n C) (m : Mv z z' S w w') (hn : ¬ S i) : CardsIn w' z' i t n C := by
  obtain ⟨b, r, h, ht, hb, hr⟩ := h
  exact ⟨b, r, h.keep m.fr (by rw [ht]; exact hn) (by rw [hb]; exact hn) (by rw [hr]; exact hn), (m.zs _ h.tab.lt).trans ht, (m.zs _ h.set.blt).trans hb, (m.zs _ h.set.rlt).trans hr⟩
theorem SetsIn.mv {b : Nat} {n per : Int} (h : SetsIn w z i b n per) (m : Mv z z' S w w') (hn : ¬ S i) : SetsIn w' z' i b n per := by
  obtain ⟨m1, m2, m3, e1, c1, e2, c2, e3, c3, h, a1, a2, a3, hb, k1, k2, k3⟩ := h
  exact ⟨m1, m2, m3, e1, c1, e2, c2, e3, c3, ⟨h.tab.keep m.fr (by rw [hb]; exact hn), h.ne⟩, a1.keep m.fr (by rw [k1]; exact hn), a2.keep m.fr (by rw [k2]; exact hn), a3.keep m.fr (by rw [k3]; exact hn),
    (m.zs _ h.tab.lt).trans hb, (m.zs _ a1.lt).trans k1, (m.zs _ a2.lt).trans k2, (m.zs _ a3.lt).trans k3⟩
theorem StackIn.mv {b : Nat} {bound : Int} {l : List Int} (h : StackIn w z i b bound l) (m : Mv z z' S w w') (hn : ¬ S i) : StackIn w' z' i b bound l := by
  obtain ⟨v, h, hb, hv⟩ := h
  exact ⟨v, h.keep m.fr (by rw [hb]; exact hn) (fun k hk => by rw [hv k hk]; exact hn), (m.zs _ h.tab.lt).trans hb, (own_mv h.own hv m hn).2⟩
theorem QueueIn.mv {b : Nat} {bound : Int} {common : List Int} {own : List (List Int)} (h : QueueIn w z i j b bound common own) (m : Mv z z' S w w') (hn : ¬ S i) (hj : ∀ t, t < own.length → ¬ S (j + t)) : QueueIn w' z' i j b bound common own := by
  obtain ⟨r, vc, vs, h1, h2, hl, hb, hr, ho, hz, hs⟩ := h
  have hc := own_mv ho hz m hn
  refine ⟨r, vc, vs, (h1.mv hb m hn).1, (h2.mv hr m hn).1, hl, (h1.mv hb m hn).2, (h2.mv hr m hn).2, hc.1, hc.2, fun t v l hv hl => ?_⟩
  obtain ⟨h3, h4⟩ := hs t v l hv hl
  exact own_mv h3 h4 m (hj t (List.getElem?_eq_some_iff.1 hl).1)
end

/-- Where a heap's parts are. -/
structure HP where
  ab : Nat
  rb : Nat
  ob : Nat
  cb : Nat
  qb : Nat
  sb : Nat
  mb : Nat
  bf : Nat
  vr : Value
  bs : List Nat
/-- What a heap holds. -/
structure HS where
  acc : Int
  ws : List Int
  rs : List R
  back : List Int
  cards : Nat → Bool
  common : List Int
  own : List (List Int)
  marks : Nat → Bool
  refs : List (List Int)
  bufs : List (Int × Int)
def geoC (c : Cfg) : List Value := geoL (c.c1 * P c) (P c) (Q c) c.c1 (c.c1 * P c / Q c) (min 1048576 (c.c1 * P c - P c))
def ptr (b : Nat) : Value := .pointer (some ⟨b, 0, none⟩)
def heapL (c : Cfg) (p : HP) : List Value := cfgL c ++ geoC c ++ [ptr p.ab, ptr p.rb, ptr p.ob, ptr p.cb, ptr p.qb, ptr p.sb, ptr p.mb, p.vr, .slice (some ⟨p.bf, 0, none⟩) c.c3.toNat c.c3.toNat]
def bufL (l : List (Int × Int)) : List Value := l.flatMap fun x => [.int .i64 x.1, .int .i64 x.2]
structure HeapAt (w : World) (z : Nat → Nat) (c : Cfg) (hb : Nat) (p : HP) (s : HS) : Prop where
  ok : Valid c
  tab : Blk w hb t_heap_Heap (heapL c p)
  tabz : z hb = 1
  arena : ArenaIn w z 2 p.ab s.acc s.ws
  wsl : (s.ws.length : Int) = c.c1 * P c
  regs : RegIn w z 3 p.rb (P c) s.rs
  rsl : (s.rs.length : Int) = c.c1
  offs : OffsIn w z 4 p.ob (c.c1 * P c) (Q c) s.back
  cards : CardsIn w z 5 p.cb (c.c1 * P c / Q c) s.cards
  queue : QueueIn w z 6 200 p.qb c.c9 s.common s.own
  ownl : (s.own.length : Int) = c.c3
  sets : SetsIn w z 7 p.sb c.c1 (P c / Q c)
  marks : MarksIn w z 8 p.mb (c.c1 * P c) s.marks
  rootr : w.ownsRow 0 t_p_roots_Stack 1 p.vr p.bs.length (p.bs.map ptr)
  rootz : ∀ k, p.vr.ownBlock = some k → z k = 9
  bsl : (p.bs.length : Int) = c.c3
  refl : s.refs.length = p.bs.length
  stacks : ∀ (t b : Nat) (l : List Int), p.bs[t]? = some b → s.refs[t]? = some l → StackIn w z (100 + t) b c.c4 l
  bufr : Blk w p.bf t_buffer_Buffer (bufL s.bufs)
  bufz : z p.bf = 10
  bufl : (s.bufs.length : Int) = c.c3
/-- A step elsewhere. -/
theorem HeapAt.mv {w w' : World} {z z' : Nat → Nat} {S : Nat → Prop} {c : Cfg} {hb : Nat} {p : HP} {s : HS} (h : HeapAt w z c hb p s) (m : Mv z z' S w w') (hn : ∀ i, (1 ≤ i ∧ i ≤ 10) ∨ (100 ≤ i ∧ i < 300) → ¬ S i) : HeapAt w' z' c hb p s := by
  have c3 := h.ok.ls 1 (c.c3, 1, 64) rfl
  have hs : ∀ {i}, 1 ≤ i → i ≤ 10 → ¬ S i := fun a b => hn _ (.inl ⟨a, b⟩)
  have h1 := h.tab.mv h.tabz m (hs (by decide) (by decide))
  have h2 := own_mv h.rootr h.rootz m (hs (by decide) (by decide))
  have h3 := h.bufr.mv h.bufz m (hs (by decide) (by decide))
  have hol := h.ownl
  have hbl := h.bsl
  have c31 : c.c3 ≤ 64 := c3.2
  exact ⟨h.ok, h1.1, h1.2, h.arena.mv m (hs (by decide) (by decide)), h.wsl, h.regs.mv m (hs (by decide) (by decide)), h.rsl, h.offs.mv m (hs (by decide) (by decide)), h.cards.mv m (hs (by decide) (by decide)),
    h.queue.mv m (hs (by decide) (by decide)) (fun t ht => hn _ (.inr (by omega))), hol, h.sets.mv m (hs (by decide) (by decide)), h.marks.mv m (hs (by decide) (by decide)), h2.1, h2.2, hbl, h.refl,
    fun t b l hb hl => (h.stacks t b l hb hl).mv m (hn _ (.inr (by have := (List.getElem?_eq_some_iff.1 hb).1; omega))), h3.1, h3.2, h.bufl⟩
end Go.Proofs.Ythmkimnpdnmahaa
