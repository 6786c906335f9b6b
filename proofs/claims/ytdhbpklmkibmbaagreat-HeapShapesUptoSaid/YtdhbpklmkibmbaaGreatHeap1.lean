/- Layer 14 (heap): what a heap is in the model, part by part. -/
import Derived.Test.YtdhbpklmkibmbaaGreatVcI
import Derived.Test.YtdhbpklmkibmbaaGreatArena
import Derived.Test.YtdhbpklmkibmbaaGreatQueue
import Derived.Test.YtdhbpklmkibmbaaGreatCardTab
import Derived.Test.YtdhbpklmkibmbaaGreatOffs3
import Derived.Test.YtdhbpklmkibmbaaGreatRegion7
import Derived.Test.YtdhbpklmkibmbaaGreatRem14
import Derived.Test.YtdhbpklmkibmbaaGreatBitsA
namespace Go.Proofs.YtdhbpklmkibmbaaGreat
open Go.Vc

section
variable {z z' : Nat → Nat} {S : Nat → Prop} {w w' : World} {i j : Nat}
def ArenaIn (w : World) (z : Nat → Nat) (i b : Nat) (acc : Int) (ws : List Int) : Prop := ∃ r, IsArena w b r acc ws ∧ z b = i ∧ z r = i
def RegIn (w : World) (z : Nat → Nat) (i b : Nat) (words : Int) (rs : List R) : Prop := ∃ r, IsReg w b r words rs ∧ z b = i ∧ z r = i
def OffsIn (w : World) (z : Nat → Nat) (i b : Nat) (words card : Int) (back : List Int) : Prop := ∃ r, IsOffs w b r words card back ∧ z b = i ∧ z r = i
def CardsIn (w : World) (z : Nat → Nat) (i t : Nat) (n : Int) (C : Nat → Bool) : Prop := ∃ b r, IsCards w t b r n C ∧ z t = i ∧ z b = i ∧ z r = i
def MarksIn (w : World) (z : Nat → Nat) (i b : Nat) (n : Int) (C : Nat → Bool) : Prop := ∃ r, IsBits w b r n C ∧ z b = i ∧ z r = i
def SetsIn (w : World) (z : Nat → Nat) (i b : Nat) (n per : Int) (A : Abs) : Prop := RS w b (fun x => z x = i) n per A
def StackIn (w : World) (z : Nat → Nat) (i b : Nat) (bound : Int) (l : List Int) : Prop := ∃ v, IsStack w b v bound l ∧ z b = i ∧ ∀ k, v.ownBlock = some k → z k = i
/-- A queue: the common row, and in zone j + t thread t's. -/
def QueueIn (w : World) (z : Nat → Nat) (i j b : Nat) (bound : Int) (common : List Int) (own : List (List Int)) : Prop :=
  ∃ r vc vs, Blk w b t_queue_Queue [.int .i64 bound, vc, .slice (some ⟨r, 0, none⟩) own.length own.length] ∧ Blk w r t_s_int vs ∧ vs.length = own.length ∧ z b = i ∧ z r = i ∧
    w.ownsRow 0 t_int 1 vc common.length (ints common) ∧ (∀ k, vc.ownBlock = some k → z k = i) ∧
    ∀ (t : Nat) (v : Value) (l : List Int), vs[t]? = some v → own[t]? = some l → w.ownsRow 0 t_int 1 v l.length (ints l) ∧ ∀ k, v.ownBlock = some k → z k = j + t
theorem own_mv {e n : Nat} {v : Value} {xs : List Value} (h : w.ownsRow 0 e 1 v n xs) (hz : ∀ k, v.ownBlock = some k → z k = i) (m : Mv z z' S w w') (hn : ¬ S i) : w'.ownsRow 0 e 1 v n xs ∧ ∀ k, v.ownBlock = some k → z' k = i :=
  ⟨own_keepV h m.fr (fun k hk => by rw [hz k hk]; exact hn), fun k hk => (m.zs k (by obtain ⟨cur, hb, _⟩ := own_blk h k hk; exact hb.lt)).trans (hz k hk)⟩
theorem ArenaIn.mv {b : Nat} {acc : Int} {ws : List Int} (h : ArenaIn w z i b acc ws) (m : Mv z z' S w w') (hn : ¬ S i) : ArenaIn w' z' i b acc ws := by
  obtain ⟨r, h, hb, hr⟩ := h
  exact ⟨r, h.keep m.fr (by rw [hb]; exact hn) (by rw [hr]; exact hn), (m.zs _ h.tab.lt).trans hb, (m.zs _ h.row.lt).trans hr⟩
theorem RegIn.mv {b : Nat} {words : Int} {rs : List R} (h : RegIn w z i b words rs) (m : Mv z z' S w w') (hn : ¬ S i) : RegIn w' z' i b words rs := by
  obtain ⟨r, h, hb, hr⟩ := h
  exact ⟨r, h.keep m.fr (by rw [hb]; exact hn) (by rw [hr]; exact hn), (m.zs _ h.tab.lt).trans hb, (m.zs _ h.row.lt).trans hr⟩
theorem OffsIn.mv {b : Nat} {words card : Int} {back : List Int} (h : OffsIn w z i b words card back) (m : Mv z z' S w w') (hn : ¬ S i) : OffsIn w' z' i b words card back := by
  obtain ⟨r, h, hb, hr⟩ := h
  exact ⟨r, h.keep m.fr (by rw [hb]; exact hn) (by rw [hr]; exact hn), (m.zs _ h.tab.lt).trans hb, (m.zs _ h.row.lt).trans hr⟩
theorem MarksIn.mv {b : Nat} {n : Int} {C : Nat → Bool} (h : MarksIn w z i b n C) (m : Mv z z' S w w') (hn : ¬ S i) : MarksIn w' z' i b n C := by
  obtain ⟨r, h, hb, hr⟩ := h
  exact ⟨r, h.keep m.fr (by rw [hb]; exact hn) (by rw [hr]; exact hn), (m.zs _ h.blt).trans hb, (m.zs _ h.rlt).trans hr⟩
theorem CardsIn.mv {t : Nat} {n : Int} {C : Nat → Bool} (h : CardsIn w z i t n C) (m : Mv z z' S w w') (hn : ¬ S i) : CardsIn w' z' i t n C := by
  obtain ⟨b, r, h, ht, hb, hr⟩ := h
  exact ⟨b, r, h.keep m.fr (by rw [ht]; exact hn) (by rw [hb]; exact hn) (by rw [hr]; exact hn), (m.zs _ h.tab.lt).trans ht, (m.zs _ h.set.blt).trans hb, (m.zs _ h.set.rlt).trans hr⟩
theorem SetsIn.mv {b : Nat} {n per : Int} {A : Abs} (h : SetsIn w z i b n per A) (m : Mv z z' S w w') (hn : ¬ S i) : SetsIn w' z' i b n per A :=
  ((RS.trim h).keep m.fr (fun x hx e => hn (by rw [← hx.1]; exact e))).sub fun x hx => (m.zs x hx.2).trans hx.1
theorem StackIn.mv {b : Nat} {bound : Int} {l : List Int} (h : StackIn w z i b bound l) (m : Mv z z' S w w') (hn : ¬ S i) : StackIn w' z' i b bound l := by
  obtain ⟨v, h, hb, hv⟩ := h
  exact ⟨v, h.keep m.fr (by rw [hb]; exact hn) (fun k hk => by rw [hv k hk]; exact hn), (m.zs _ h.tab.lt).trans hb, (own_mv h.own hv m hn).2⟩
theorem QueueIn.mv {b : Nat} {bound : Int} {common : List Int} {own : List (List Int)} (h : QueueIn w z i j b bound common own) (m : Mv z z' S w w') (hn : ¬ S i) (hj : ∀ t, t < own.length → ¬ S (j + t)) : QueueIn w' z' i j b bound common own := by
  obtain ⟨r, vc, vs, h1, h2, hl, hb, hr, ho, hz, hs⟩ := h
  have hc := own_mv ho hz m hn
  refine ⟨r, vc, vs, (h1.mv hb m hn).1, (h2.mv hr m hn).1, hl, (h1.mv hb m hn).2, (h2.mv hr m hn).2, hc.1, hc.2, fun t v l hv hl => ?_⟩
  obtain ⟨h3, h4⟩ := hs t v l hv hl
  exact own_mv h3 h4 m (hj t (List.getElem?_eq_some_iff.1 hl).1)
end

/-- Where a heap's parts are. -/
structure HP where
  ab : Nat
  rb : Nat
  ob : Nat
  cb : Nat
  qb : Nat
  sb : Nat
  mb : Nat
  bf : Nat
  vr : Value
  bs : List Nat
/-- What a heap holds. -/
structure HS where
  acc : Int
  ws : List Int
  rs : List R
  back : List Int
  cards : Nat → Bool
  common : List Int
  own : List (List Int)
  sets : Abs
  marks : Nat → Bool
  refs : List (List Int)
  bufs : List (Int × Int)
def geoC (c : Cfg) : List Value := geoL (c.c1 * P c) (P c) (Q c) c.c1 (c.c1 * P c / Q c) (min 1048576 (c.c1 * P c - P c))
def ptr (b : Nat) : Value := .pointer (some ⟨b, 0, none⟩)
def heapL (c : Cfg) (p : HP) : List Value := cfgL c ++ geoC c ++ [ptr p.ab, ptr p.rb, ptr p.ob, ptr p.cb, ptr p.qb, ptr p.sb, ptr p.mb, p.vr, .slice (some ⟨p.bf, 0, none⟩) c.c3.toNat c.c3.toNat]
def bufL (l : List (Int × Int)) : List Value := l.flatMap fun x => [.int .i64 x.1, .int .i64 x.2]
structure HeapAt (w : World) (z : Nat → Nat) (c : Cfg) (hb : Nat) (p : HP) (s : HS) : Prop where
  ok : Valid c
  tab : Blk w hb t_heap_Heap (heapL c p)
  tabz : z hb = 1
  arena : ArenaIn w z 2 p.ab s.acc s.ws
  wsl : (s.ws.length : Int) = c.c1 * P c
  regs : RegIn w z 3 p.rb (P c) s.rs
  rsl : (s.rs.length : Int) = c.c1
  offs : OffsIn w z 4 p.ob (c.c1 * P c) (Q c) s.back
  cards : CardsIn w z 5 p.cb (c.c1 * P c / Q c) s.cards
  queue : QueueIn w z 6 200 p.qb c.c9 s.common s.own
  ownl : (s.own.length : Int) = c.c3
  sets : SetsIn w z 7 p.sb c.c1 (P c / Q c) s.sets
  marks : MarksIn w z 8 p.mb (c.c1 * P c) s.marks
  rootr : w.ownsRow 0 t_p_roots_Stack 1 p.vr p.bs.length (p.bs.map ptr)
  rootz : ∀ k, p.vr.ownBlock = some k → z k = 9
  bsl : (p.bs.length : Int) = c.c3
  refl : s.refs.length = p.bs.length
  stacks : ∀ (t b : Nat) (l : List Int), p.bs[t]? = some b → s.refs[t]? = some l → StackIn w z (100 + t) b c.c4 l
  bufr : Blk w p.bf t_buffer_Buffer (bufL s.bufs)
  bufz : z p.bf = 10
  bufl : (s.bufs.length : Int) = c.c3
/-- A step elsewhere. -/
theorem HeapAt.mv {w w' : World} {z z' : Nat → Nat} {S : Nat → Prop} {c : Cfg} {hb : Nat} {p : HP} {s : HS} (h : HeapAt w z c hb p s) (m : Mv z z' S w w') (hn : ∀ i, (1 ≤ i ∧ i ≤ 10) ∨ (100 ≤ i ∧ i < 300) → ¬ S i) : HeapAt w' z' c hb p s := by
  have c3 := h.ok.ls 1 (c.c3, 1, 64) rfl
  have hs : ∀ {i}, 1 ≤ i → i ≤ 10 → ¬ S i := fun a b => hn _ (.inl ⟨a, b⟩)
  have h1 := h.tab.mv h.tabz m (hs (by decide) (by decide))
  have h2 := own_mv h.rootr h.rootz m (hs (by decide) (by decide))
  have h3 := h.bufr.mv h.bufz m (hs (by decide) (by decide))
  have hol := h.ownl
  have hbl := h.bsl
  have c31 : c.c3 ≤ 64 := c3.2
  exact ⟨h.ok, h1.1, h1.2, h.arena.mv m (hs (by decide) (by decide)), h.wsl, h.regs.mv m (hs (by decide) (by decide)), h.rsl, h.offs.mv m (hs (by decide) (by decide)), h.cards.mv m (hs (by decide) (by decide)),
    h.queue.mv m (hs (by decide) (by decide)) (fun t ht => hn _ (.inr (by omega))), hol, h.sets.mv m (hs (by decide) (by decide)), h.marks.mv m (hs (by decide) (by decide)), h2.1, h2.2, hbl, h.refl,
    fun t b l hb hl => (h.stacks t b l hb hl).mv m (hn _ (.inr (by have := (List.getElem?_eq_some_iff.1 hb).1; omega))), h3.1, h3.2, h.bufl⟩
end Go.Proofs.YtdhbpklmkibmbaaGreat
/- Layer 14 (heap): New. -/
namespace Go.Proofs.YtdhbpklmkibmbaaGreat
open Go.Vc

def heapV (c : Cfg) (a r o d q s m vr : Value) (bf : Nat) : List Value := cfgL c ++ geoC c ++ [a, r, o, d, q, s, m, vr, .slice (some ⟨bf, 0, none⟩) c.c3.toNat c.c3.toNat]
def nilp : Value := .pointer none
def newS (c : Cfg) : HS where
  acc := 0
  ws := List.replicate (c.c1 * P c).toNat 0
  rs := zeros7 c.c1.toNat
  back := List.replicate (c.c1 * P c / Q c).toNat 0
  cards := fun _ => false
  common := []
  own := List.replicate c.c3.toNat []
  sets := fun _ => .sp []
  marks := fun _ => false
  refs := List.replicate c.c3.toNat []
  bufs := List.replicate c.c3.toNat (0, 0)
theorem zerosB (n : Nat) : zerosR (n * 2) [.int .i64 0, .int .i64 0] = bufL (List.replicate n (0, 0)) := by
  induction n with
  | zero => rfl
  | succ n ih =>
    have e : bufL (List.replicate (n + 1) (0, 0)) = bufL (List.replicate n (0, 0)) ++ [.int .i64 0, .int .i64 0] := by
      rw [List.replicate_succ']; simp [bufL]
    rw [e, ← ih]
    unfold zerosR
    rw [show (n + 1) * 2 = n * 2 + 1 + 1 by omega, List.range_succ, List.range_succ]
    have es : (([.int .i64 0, .int .i64 0] : List Value).toArray).size = 2 := rfl
    simp only [List.map_append, List.map_cons, List.map_nil, List.append_assoc, es]
    rw [show n * 2 % 2 = 0 by omega, show (n * 2 + 1) % 2 = 1 by omega]
    rfl
/-- The parts that New lays ahead of the stacks. -/
def Rest7 (w : World) (z : Nat → Nat) (c : Cfg) (ab rb ob cb qb sb mb : Nat) : Prop :=
  ArenaIn w z 2 ab 0 (newS c).ws ∧ RegIn w z 3 rb (P c) (newS c).rs ∧ OffsIn w z 4 ob (c.c1 * P c) (Q c) (newS c).back ∧ CardsIn w z 5 cb (c.c1 * P c / Q c) (newS c).cards ∧
    QueueIn w z 6 200 qb c.c9 (newS c).common (newS c).own ∧ SetsIn w z 7 sb c.c1 (P c / Q c) (newS c).sets ∧ MarksIn w z 8 mb (c.c1 * P c) (newS c).marks
theorem Rest7.mv {w w' : World} {z z' : Nat → Nat} {S : Nat → Prop} {c : Cfg} {ab rb ob cb qb sb mb : Nat} (h : Rest7 w z c ab rb ob cb qb sb mb) (m : Mv z z' S w w') (hn : ∀ i, (2 ≤ i ∧ i ≤ 8) ∨ 200 ≤ i → ¬ S i) : Rest7 w' z' c ab rb ob cb qb sb mb :=
  ⟨h.1.mv m (hn _ (by omega)), h.2.1.mv m (hn _ (by omega)), h.2.2.1.mv m (hn _ (by omega)), h.2.2.2.1.mv m (hn _ (by omega)), h.2.2.2.2.1.mv m (hn _ (by omega)) (fun t _ => hn _ (by omega)), h.2.2.2.2.2.1.mv m (hn _ (by omega)), h.2.2.2.2.2.2.mv m (hn _ (by omega))⟩
set_option maxHeartbeats 2000000 in
theorem heap_New_spec (c : Cfg) (w : World) (hV : Valid c) : CallC Pr f_heap_New [cfgV c] w (fun v w' =>
    ∃ hb p z, v = .tuple #[ptr hb, .int .i64 0] ∧ HeapAt w' z c hb p (newS c) ∧ (∀ k, z k < 300) ∧ (∀ k, k < w.heap.size → z k = 0) ∧ Fr No w w') := by
  have hp := P_le hV
  have hr0 := hV.r0
  have hr1 := hV.r1
  have c3 : 1 ≤ c.c3 ∧ c.c3 ≤ 64 := hV.ls 1 _ rfl
  have c4 : 1 ≤ c.c4 ∧ c.c4 ≤ 64 := hV.ls 2 _ rfl
  have c9 : 0 ≤ c.c9 ∧ c.c9 ≤ 65536 := hV.ls 7 _ rfl
  refine call_sound T_ok fun_heap_New rfl (by kernel_rfl) rfl (Kp ?_)
  refine NewC_blk (fun p1 w1 hp1 h1 f1 s1 => ?_)
  have h1 : Blk w1 p1 t_api_Config (cfgL c) := h1
  refine LdN_blk (vs := cfgL c) h1 rfl rfl ?_
  refine CallC_intro (geom_New_spec c w1) (fun v w2 ⟨hv, f2⟩ => ?_)
  have hv : v = .tuple #[.agg (geoC c).toArray, .int .i64 0] := by
    rcases hv with ⟨_, hv⟩ | ⟨hn, _⟩
    · exact hv
    · exact absurd hV hn
  subst hv
  refine NewC_blk (fun g w3 hg h3 f3 s3 => ?_)
  refine StN_blk h3 rfl (Nat.le_refl 6) (fun w4 h4 f4 s4 => ?_)
  have h4 : Blk w4 g t_geom_Geom (geoC c) := h4
  have f34 : Fr No w2 w4 := f3.new f4 (fun _ _ e => e) (fun k e => by omega)
  have f14 := f2.no f34
  have h1 := h1.keep f14 id
  have f04 := f1.no f14
  refine AnyC_ord [0,1,2,3,1004,5,1006,7] T_ok mixed (by kernel_rfl) (by kernel_rfl) ?_
  refine LdSN_blk (vs := cfgL c) h1 rfl rfl ?_
  refine LdSN_blk (vs := geoC c) h4 rfl rfl ?_
  refine LdS_blk h1 rfl ?_
  refine ⟨?_, trivial⟩
  refine MkN T_ok (n := c.c3) rfl rfl (by omega) (by omega) (show (16 : Int) * c.c3 ≤ _ by omega) (show c.c3.toNat * 2 ≠ 0 by omega) (fun bf w5 hbf h5 f5 s5 => ?_)
  have f5 := (Fr.drew w4).no f5
  refine Sd_intro f5.old ?_
  refine ⟨?_, trivial⟩
  refine NewC_blk (fun hb w6 hhb h6 f6 s6 => ?_)
  have f46 := f5.no f6
  refine Sd_intro f46.old ?_
  have h6 : Blk w6 hb t_heap_Heap (heapV c nilp nilp nilp nilp nilp nilp nilp (.slice none 0 0) bf) := h6
  have h5 : Blk w5 bf t_buffer_Buffer (zerosR (c.c3.toNat * 2) [.int .i64 0, .int .i64 0]) := h5
  rw [zerosB] at h5
  have h4 := h4.keep f46 id
  have h1 := h1.keep f46 id
  have F6 := f04.no f46
  have n0 : 0 ≤ c.c1 * P c / Q c := Int.ediv_nonneg (by omega) (by omega)
  have n1 : c.c1 * P c / Q c ≤ 4194304 := by have := Int.ediv_le_self (a := c.c1 * P c) (Q c) (by omega); omega
  have hq : P c ≤ 4194304 / c.c1 := by
    rw [Int.le_ediv_iff_mul_le (by omega), Int.mul_comm]; omega
  have hm : P c % Q c = 0 := by
    have := hV.cs; unfold P Q; rw [pow_split (show c.c2.toNat ≤ c.c0.toNat by omega)]; exact Int.mul_emod_right _ _
  have k1 := f1.size
  have k2 := f14.size
  have k3 := f46.size
  have k5 := f5.size
  have ne1 : p1 ≠ hb := by omega
  have lg := h4.lt
  have ne4 : g ≠ hb := by have := f34.size; omega
  have neb : bf ≠ hb := by omega
  have z6 : ∃ z : Nat → Nat, z hb = 1 ∧ z bf = 10 ∧ (∀ k, z k < 300) ∧ ∀ k, k < w.heap.size → z k = 0 := ⟨zput (zput (fun _ => 0) hb 1) bf 10, by rw [zput_ne (Ne.symm neb), zput_self], zput_self, zput_lt (zput_lt (fun _ => by decide) (by decide)) (by decide), fun k hk => by rw [zput_ne (by omega), zput_ne (by omega)]⟩
  obtain ⟨z, zh, zb, zl, z0⟩ := z6
  have hB := h5.keep f6 id
  have hT := h6
  have gh : w.heap.size ≤ hb := by omega
  refine LdC_blk h4 rfl ?_
  refine CallC_intro (arena_New_spec (c.c1 * P c) w6 (by omega) (by omega)) (fun v wAa ⟨ab, ar, hv, hX, f, g0, g1⟩ => ?_)
  subst hv
  obtain ⟨za, zla, mAa, ya0, ya1⟩ : ∃ z' : Nat → Nat, (∀ k, z' k < 300) ∧ Mv z z' (fun _ => False) w6 wAa ∧ z' ab = 2 ∧ z' ar = 2 := ⟨(zput (zput z ab 2) ar 2), (zput_lt (zput_lt zl (by decide)) (by decide)), ((Mv.of (z := z) (S := fun _ => False) f).put g0).put g1, (zput_keep zput_self), zput_self⟩
  have Ca0 : ArenaIn wAa za 2 ab 0 (newS c).ws := ⟨ar, hX, ya0, ya1⟩
  have Ta0 := hT.mv zh mAa id
  have Ba0 := hB.mv zb mAa id
  have h1a0 := h1.keep f id
  have h4a0 := h4.keep f id
  have FFa0 := F6.no f
  have z0a : ∀ k, k < w.heap.size → za k = 0 := fun k hk => (mAa.zs k (Nat.lt_of_lt_of_le hk F6.size)).trans (z0 k hk)
  refine StC_blk Ta0.1 rfl rfl (fun wBa tB fB _ => ?_)
  have tB : Blk wBa hb t_heap_Heap (heapV c (ptr ab) nilp nilp nilp nilp nilp nilp (.slice none 0 0) bf) := tB
  have mBa : Mv za za (· = 1) wAa wBa := Mv.ofZ fB (fun k _ e => by rw [e]; exact Ta0.2)
  have Ta := tB
  have zha := Ta0.2
  have Bma := Ba0.1.mv Ba0.2 mBa (by decide)
  have Ba := Bma.1
  have zba := Bma.2
  have h1a := h1a0.keep fB ne1
  have h4a := h4a0.keep fB ne4
  have Ca := Ca0.mv mBa (by decide)
  have FFa : Fr No w wBa := FFa0.new fB (fun _ _ e => e) (fun k e => by rw [e]; exact gh)
  refine LdN_blk (vs := geoC c) h4a rfl rfl ?_
  refine CallC_intro (region_New_gen (c.c1 * P c) (P c) (Q c) c.c1 (c.c1 * P c / Q c) (min 1048576 (c.c1 * P c - P c)) wBa (by omega) (by omega) (by omega) hq rfl (by omega)) (fun v wAr ⟨rb, rr, hv, hX, f, g0, g1⟩ => ?_)
  subst hv
  obtain ⟨zr, zlr, mAr, yr0, yr1⟩ : ∃ z' : Nat → Nat, (∀ k, z' k < 300) ∧ Mv za z' (fun _ => False) wBa wAr ∧ z' rb = 3 ∧ z' rr = 3 := ⟨(zput (zput za rb 3) rr 3), (zput_lt (zput_lt zla (by decide)) (by decide)), ((Mv.of (z := za) (S := fun _ => False) f).put g0).put g1, (zput_keep zput_self), zput_self⟩
  have Cr0 : RegIn wAr zr 3 rb (P c) (newS c).rs := ⟨rr, hX, yr0, yr1⟩
  have Tr0 := Ta.mv zha mAr id
  have Br0 := Ba.mv zba mAr id
  have h1r0 := h1a.keep f id
  have h4r0 := h4a.keep f id
  have Car := Ca.mv mAr id
  have FFr0 := FFa.no f
  have z0r : ∀ k, k < w.heap.size → zr k = 0 := fun k hk => (mAr.zs k (Nat.lt_of_lt_of_le hk FFa.size)).trans (z0a k hk)
  refine StC_blk Tr0.1 rfl rfl (fun wBr tB fB _ => ?_)
  have tB : Blk wBr hb t_heap_Heap (heapV c (ptr ab) (ptr rb) nilp nilp nilp nilp nilp (.slice none 0 0) bf) := tB
  have mBr : Mv zr zr (· = 1) wAr wBr := Mv.ofZ fB (fun k _ e => by rw [e]; exact Tr0.2)
  have Tr := tB
  have zhr := Tr0.2
  have Bmr := Br0.1.mv Br0.2 mBr (by decide)
  have Br := Bmr.1
  have zbr := Bmr.2
  have h1r := h1r0.keep fB ne1
  have h4r := h4r0.keep fB ne4
  replace Ca := Car.mv mBr (by decide)
  have Cr := Cr0.mv mBr (by decide)
  have FFr : Fr No w wBr := FFr0.new fB (fun _ _ e => e) (fun k e => by rw [e]; exact gh)
  refine LdN_blk (vs := geoC c) h4r rfl rfl ?_
  refine CallC_intro (offs_New_spec (c.c1 * P c) (P c) (Q c) c.c1 (c.c1 * P c / Q c) (min 1048576 (c.c1 * P c - P c)) wBr (by omega) (by omega) (by omega) rfl) (fun v wAo ⟨ob, orr, hv, hX, f, g0, g1⟩ => ?_)
  subst hv
  obtain ⟨zo, zlo, mAo, yo0, yo1⟩ : ∃ z' : Nat → Nat, (∀ k, z' k < 300) ∧ Mv zr z' (fun _ => False) wBr wAo ∧ z' ob = 4 ∧ z' orr = 4 := ⟨(zput (zput zr ob 4) orr 4), (zput_lt (zput_lt zlr (by decide)) (by decide)), ((Mv.of (z := zr) (S := fun _ => False) f).put g0).put g1, (zput_keep zput_self), zput_self⟩
  have Co0 : OffsIn wAo zo 4 ob (c.c1 * P c) (Q c) (newS c).back := ⟨orr, hX, yo0, yo1⟩
  have To0 := Tr.mv zhr mAo id
  have Bo0 := Br.mv zbr mAo id
  have h1o0 := h1r.keep f id
  have h4o0 := h4r.keep f id
  have Cao := Ca.mv mAo id
  have Cro := Cr.mv mAo id
  have FFo0 := FFr.no f
  have z0o : ∀ k, k < w.heap.size → zo k = 0 := fun k hk => (mAo.zs k (Nat.lt_of_lt_of_le hk FFr.size)).trans (z0r k hk)
  refine StC_blk To0.1 rfl rfl (fun wBo tB fB _ => ?_)
  have tB : Blk wBo hb t_heap_Heap (heapV c (ptr ab) (ptr rb) (ptr ob) nilp nilp nilp nilp (.slice none 0 0) bf) := tB
  have mBo : Mv zo zo (· = 1) wAo wBo := Mv.ofZ fB (fun k _ e => by rw [e]; exact To0.2)
  have To := tB
  have zho := To0.2
  have Bmo := Bo0.1.mv Bo0.2 mBo (by decide)
  have Bo := Bmo.1
  have zbo := Bmo.2
  have h1o := h1o0.keep fB ne1
  have h4o := h4o0.keep fB ne4
  replace Ca := Cao.mv mBo (by decide)
  replace Cr := Cro.mv mBo (by decide)
  have Co := Co0.mv mBo (by decide)
  have FFo : Fr No w wBo := FFo0.new fB (fun _ _ e => e) (fun k e => by rw [e]; exact gh)
  refine LdN_blk (vs := geoC c) h4o rfl rfl ?_
  refine CallC_intro (cards_New_spec (c.c1 * P c) (P c) (Q c) c.c1 (c.c1 * P c / Q c) (min 1048576 (c.c1 * P c - P c)) wBo n0 n1) (fun v wAc ⟨cb, cs, cr, hv, hX, f, g0, g1, g2⟩ => ?_)
  subst hv
  obtain ⟨zc, zlc, mAc, yc0, yc1, yc2⟩ : ∃ z' : Nat → Nat, (∀ k, z' k < 300) ∧ Mv zo z' (fun _ => False) wBo wAc ∧ z' cb = 5 ∧ z' cs = 5 ∧ z' cr = 5 := ⟨(zput (zput (zput zo cb 5) cs 5) cr 5), (zput_lt (zput_lt (zput_lt zlo (by decide)) (by decide)) (by decide)), (((Mv.of (z := zo) (S := fun _ => False) f).put g0).put g1).put g2, (zput_keep (zput_keep zput_self)), (zput_keep zput_self), zput_self⟩
  have Cc0 : CardsIn wAc zc 5 cb (c.c1 * P c / Q c) (newS c).cards := ⟨cs, cr, hX, yc0, yc1, yc2⟩
  have Tc0 := To.mv zho mAc id
  have Bc0 := Bo.mv zbo mAc id
  have h1c0 := h1o.keep f id
  have h4c0 := h4o.keep f id
  have Cac := Ca.mv mAc id
  have Crc := Cr.mv mAc id
  have Coc := Co.mv mAc id
  have FFc0 := FFo.no f
  have z0c : ∀ k, k < w.heap.size → zc k = 0 := fun k hk => (mAc.zs k (Nat.lt_of_lt_of_le hk FFo.size)).trans (z0o k hk)
  refine StC_blk Tc0.1 rfl rfl (fun wBc tB fB _ => ?_)
  have tB : Blk wBc hb t_heap_Heap (heapV c (ptr ab) (ptr rb) (ptr ob) (ptr cb) nilp nilp nilp (.slice none 0 0) bf) := tB
  have mBc : Mv zc zc (· = 1) wAc wBc := Mv.ofZ fB (fun k _ e => by rw [e]; exact Tc0.2)
  have Tc := tB
  have zhc := Tc0.2
  have Bmc := Bc0.1.mv Bc0.2 mBc (by decide)
  have Bc := Bmc.1
  have zbc := Bmc.2
  have h1c := h1c0.keep fB ne1
  have h4c := h4c0.keep fB ne4
  replace Ca := Cac.mv mBc (by decide)
  replace Cr := Crc.mv mBc (by decide)
  replace Co := Coc.mv mBc (by decide)
  have Cc := Cc0.mv mBc (by decide)
  have FFc : Fr No w wBc := FFc0.new fB (fun _ _ e => e) (fun k e => by rw [e]; exact gh)
  refine LdC_blk h1c rfl ?_
  refine LdC_blk h1c rfl ?_
  refine CallC_intro (queue_New_spec c.c3 c.c9 wBc c3.1 c3.2 c9.1 c9.2) (fun v wAq ⟨qb, qr, hv, hX, hX2, f, g0, g1, hne⟩ => ?_)
  subst hv
  obtain ⟨zq, zlq, mAq, yq0, yq1⟩ : ∃ z' : Nat → Nat, (∀ k, z' k < 300) ∧ Mv zc z' (fun _ => False) wBc wAq ∧ z' qb = 6 ∧ z' qr = 6 := ⟨(zput (zput zc qb 6) qr 6), (zput_lt (zput_lt zlc (by decide)) (by decide)), ((Mv.of (z := zc) (S := fun _ => False) f).put g0).put g1, (zput_keep zput_self), zput_self⟩
  have Cq0 : QueueIn wAq zq 6 200 qb c.c9 (newS c).common (newS c).own := by
    refine ⟨qr, .slice none 0 0, List.replicate c.c3.toNat (.slice none 0 0), by show Blk _ _ _ [_, _, .slice _ (List.replicate c.c3.toNat ([] : List Int)).length (List.replicate c.c3.toNat ([] : List Int)).length]; rw [List.length_replicate]; exact hX, hX2, by show _ = (List.replicate c.c3.toNat ([] : List Int)).length; rw [List.length_replicate, List.length_replicate], yq0, yq1, World.ownsRow_nil _ _ _ _, fun k hk => (by cases hk), fun t v l hv hl => ?_⟩
    have := (List.mem_replicate.1 (List.mem_of_getElem? hv)).2
    subst this
    have := (List.mem_replicate.1 (List.mem_of_getElem? hl)).2
    subst this
    exact ⟨World.ownsRow_nil _ _ _ _, fun k hk => (by cases hk)⟩
  have Tq0 := Tc.mv zhc mAq id
  have Bq0 := Bc.mv zbc mAq id
  have h1q0 := h1c.keep f id
  have h4q0 := h4c.keep f id
  have Caq := Ca.mv mAq id
  have Crq := Cr.mv mAq id
  have Coq := Co.mv mAq id
  have Ccq := Cc.mv mAq id
  have FFq0 := FFc.no f
  have z0q : ∀ k, k < w.heap.size → zq k = 0 := fun k hk => (mAq.zs k (Nat.lt_of_lt_of_le hk FFc.size)).trans (z0c k hk)
  refine StC_blk Tq0.1 rfl rfl (fun wBq tB fB _ => ?_)
  have tB : Blk wBq hb t_heap_Heap (heapV c (ptr ab) (ptr rb) (ptr ob) (ptr cb) (ptr qb) nilp nilp (.slice none 0 0) bf) := tB
  have mBq : Mv zq zq (· = 1) wAq wBq := Mv.ofZ fB (fun k _ e => by rw [e]; exact Tq0.2)
  have Tq := tB
  have zhq := Tq0.2
  have Bmq := Bq0.1.mv Bq0.2 mBq (by decide)
  have Bq := Bmq.1
  have zbq := Bmq.2
  have h1q := h1q0.keep fB ne1
  have h4q := h4q0.keep fB ne4
  replace Ca := Caq.mv mBq (by decide)
  replace Cr := Crq.mv mBq (by decide)
  replace Co := Coq.mv mBq (by decide)
  replace Cc := Ccq.mv mBq (by decide)
  have Cq := Cq0.mv mBq (by decide) (fun t _ => by omega)
  have FFq : Fr No w wBq := FFq0.new fB (fun _ _ e => e) (fun k e => by rw [e]; exact gh)
  refine LdN_blk (vs := geoC c) h4q rfl rfl ?_
  refine CallC_intro (remset_New_spec (c.c1 * P c) (P c) (Q c) c.c1 (c.c1 * P c / Q c) (min 1048576 (c.c1 * P c - P c)) wBq (by omega) (by omega) (by omega) (by omega) hq hm rfl (by omega) rfl) (fun v wAs ⟨sb, m1, m2, m3, hv, hX, hM1, hM2, hM3, f, g0, g1, g2, g3⟩ => ?_)
  subst hv
  obtain ⟨zs, zls, mAs, ys0, ys1, ys2, ys3⟩ : ∃ z' : Nat → Nat, (∀ k, z' k < 300) ∧ Mv zq z' (fun _ => False) wBq wAs ∧ z' sb = 7 ∧ z' m1 = 7 ∧ z' m2 = 7 ∧ z' m3 = 7 := ⟨(zput (zput (zput (zput zq sb 7) m1 7) m2 7) m3 7), (zput_lt (zput_lt (zput_lt (zput_lt zlq (by decide)) (by decide)) (by decide)) (by decide)), ((((Mv.of (z := zq) (S := fun _ => False) f).put g0).put g1).put g2).put g3, (zput_keep (zput_keep (zput_keep zput_self))), (zput_keep (zput_keep zput_self)), (zput_keep zput_self), zput_self⟩
  have Cs0 : SetsIn wAs zs 7 sb c.c1 (P c / Q c) (newS c).sets := (new_RS (sets_nil hX hM1 hM2 hM3)).sub fun x hx => by
    simp only [List.mem_cons, List.not_mem_nil, or_false] at hx
    rcases hx with e | e | e | e <;> (rw [e]; assumption)
  have Ts0 := Tq.mv zhq mAs id
  have Bs0 := Bq.mv zbq mAs id
  have h1s0 := h1q.keep f id
  have h4s0 := h4q.keep f id
  have Cas := Ca.mv mAs id
  have Crs := Cr.mv mAs id
  have Cos := Co.mv mAs id
  have Ccs := Cc.mv mAs id
  have Cqs := Cq.mv mAs id (fun _ _ => id)
  have FFs0 := FFq.no f
  have z0s : ∀ k, k < w.heap.size → zs k = 0 := fun k hk => (mAs.zs k (Nat.lt_of_lt_of_le hk FFq.size)).trans (z0q k hk)
  refine StC_blk Ts0.1 rfl rfl (fun wBs tB fB _ => ?_)
  have tB : Blk wBs hb t_heap_Heap (heapV c (ptr ab) (ptr rb) (ptr ob) (ptr cb) (ptr qb) (ptr sb) nilp (.slice none 0 0) bf) := tB
  have mBs : Mv zs zs (· = 1) wAs wBs := Mv.ofZ fB (fun k _ e => by rw [e]; exact Ts0.2)
  have Ts := tB
  have zhs := Ts0.2
  have Bms := Bs0.1.mv Bs0.2 mBs (by decide)
  have Bs := Bms.1
  have zbs := Bms.2
  have h1s := h1s0.keep fB ne1
  have h4s := h4s0.keep fB ne4
  replace Ca := Cas.mv mBs (by decide)
  replace Cr := Crs.mv mBs (by decide)
  replace Co := Cos.mv mBs (by decide)
  replace Cc := Ccs.mv mBs (by decide)
  replace Cq := Cqs.mv mBs (by decide) (fun t _ => by omega)
  have Cs := Cs0.mv mBs (by decide)
  have FFs : Fr No w wBs := FFs0.new fB (fun _ _ e => e) (fun k e => by rw [e]; exact gh)
  refine LdC_blk h4s rfl ?_
  refine CallC_intro (bits_New_spec (c.c1 * P c) wBs (by omega) (by omega)) (fun v wAm ⟨mb, mr, hv, hX, f, g0, g1⟩ => ?_)
  subst hv
  obtain ⟨zm, zlm, mAm, ym0, ym1⟩ : ∃ z' : Nat → Nat, (∀ k, z' k < 300) ∧ Mv zs z' (fun _ => False) wBs wAm ∧ z' mb = 8 ∧ z' mr = 8 := ⟨(zput (zput zs mb 8) mr 8), (zput_lt (zput_lt zls (by decide)) (by decide)), ((Mv.of (z := zs) (S := fun _ => False) f).put g0).put g1, (zput_keep zput_self), zput_self⟩
  have Cm0 : MarksIn wAm zm 8 mb (c.c1 * P c) (newS c).marks := ⟨mr, hX, ym0, ym1⟩
  have Tm0 := Ts.mv zhs mAm id
  have Bm0 := Bs.mv zbs mAm id
  have h1m0 := h1s.keep f id
  have h4m0 := h4s.keep f id
  have Cam := Ca.mv mAm id
  have Crm := Cr.mv mAm id
  have Com := Co.mv mAm id
  have Ccm := Cc.mv mAm id
  have Cqm := Cq.mv mAm id (fun _ _ => id)
  have Csm := Cs.mv mAm id
  have FFm0 := FFs.no f
  have z0m : ∀ k, k < w.heap.size → zm k = 0 := fun k hk => (mAm.zs k (Nat.lt_of_lt_of_le hk FFs.size)).trans (z0s k hk)
  refine StC_blk Tm0.1 rfl rfl (fun wBm tB fB _ => ?_)
  have tB : Blk wBm hb t_heap_Heap (heapV c (ptr ab) (ptr rb) (ptr ob) (ptr cb) (ptr qb) (ptr sb) (ptr mb) (.slice none 0 0) bf) := tB
  have mBm : Mv zm zm (· = 1) wAm wBm := Mv.ofZ fB (fun k _ e => by rw [e]; exact Tm0.2)
  have Tm := tB
  have zhm := Tm0.2
  have Bmm := Bm0.1.mv Bm0.2 mBm (by decide)
  have Bm := Bmm.1
  have zbm := Bmm.2
  have h1m := h1m0.keep fB ne1
  have h4m := h4m0.keep fB ne4
  replace Ca := Cam.mv mBm (by decide)
  replace Cr := Crm.mv mBm (by decide)
  replace Co := Com.mv mBm (by decide)
  replace Cc := Ccm.mv mBm (by decide)
  replace Cq := Cqm.mv mBm (by decide) (fun t _ => by omega)
  replace Cs := Csm.mv mBm (by decide)
  have Cm := Cm0.mv mBm (by decide)
  have FFm : Fr No w wBm := FFm0.new fB (fun _ _ e => e) (fun k e => by rw [e]; exact gh)
  refine LdC_blk h1m rfl ?_
  refine LoopC_intro (α := Int) (fun i => [(1, ptr p1), (6, ptr hb), (86, .int .i64 c.c3), (87, .int .i64 i)])
    (fun m i w' => ∃ (z' : Nat → Nat) (vr : Value) (bs : List Nat), (bs.length : Int) = i ∧ (Blk w' hb t_heap_Heap (heapV c (ptr ab) (ptr rb) (ptr ob) (ptr cb) (ptr qb) (ptr sb) (ptr mb) vr bf) ∧ z' hb = 1) ∧
      (Blk w' bf t_buffer_Buffer (bufL (List.replicate c.c3.toNat (0, 0))) ∧ z' bf = 10) ∧ Rest7 w' z' c ab rb ob cb qb sb mb ∧
      (w'.ownsRow 0 t_p_roots_Stack 1 vr bs.length (bs.map ptr) ∧ ∀ k, vr.ownBlock = some k → z' k = 9) ∧ (∀ (t b : Nat), bs[t]? = some b → StackIn w' z' (100 + t) b c.c4 []) ∧
      Fr No w w' ∧ (∀ k, z' k < 300) ∧ (∀ k, k < w.heap.size → z' k = 0) ∧ Blk w' p1 t_api_Config (cfgL c) ∧ 0 ≤ i ∧ i ≤ c.c3 ∧ m = (c.c3 - i).toNat)
    (c.c3 - 0 : Int).toNat 0 ⟨rfl, rfl, rfl, rfl, trivial⟩ ⟨zm, .slice none 0 0, [], rfl, ⟨Tm, zhm⟩, ⟨Bm, zbm⟩, ⟨Ca, Cr, Co, Cc, Cq, Cs, Cm⟩, ⟨World.ownsRow_nil _ _ _ _, fun k hk => (by cases hk)⟩, fun t b h => (by cases h), FFm, zlm, z0m, h1m, Int.le_refl _, (show (0 : Int) ≤ c.c3 by omega), rfl⟩ (fun m i w7 hJ => Kp ?_)
  obtain ⟨z7, vr, bs, hbs, ⟨T7, zh7⟩, ⟨B7, zb7⟩, C7, ⟨O7, zo7⟩, S7, F7, zl7, z07, h17, i0, i1, hm7⟩ := hJ
  have i0 : 0 ≤ i := i0
  have i1 : i ≤ c.c3 := i1
  refine Br_dec (fun g => ?_) (fun g => ?_)
  · have g : i < c.c3 := g
    refine LdC_blk h17 rfl ?_
    refine CallC_intro (roots_New_spec c.c4 w7 c4.1 c4.2) (fun v w8 ⟨b, hv, hS, f8, hb8, s8⟩ => ?_)
    subst hv
    have mm8 : Mv z7 (zput z7 b (100 + bs.length)) (fun _ => False) w7 w8 := (Mv.of f8).put (by omega)
    obtain ⟨z8, zl8, m8, y8⟩ : ∃ z' : Nat → Nat, (∀ k, z' k < 300) ∧ Mv z7 z' (fun _ => False) w7 w8 ∧ z' b = 100 + bs.length := ⟨_, zput_lt zl7 (by omega), mm8, zput_self⟩
    have St8 : StackIn w8 z8 (100 + bs.length) b c.c4 [] := ⟨_, hS, y8, fun k hk => (by cases hk)⟩
    have T8 := T7.mv zh7 m8 id
    have B8 := B7.mv zb7 m8 id
    have C8 := C7.mv m8 (fun _ _ => id)
    have O8 := own_mv O7 zo7 m8 id
    have S8 : ∀ (t q : Nat), bs[t]? = some q → StackIn w8 z8 (100 + t) q c.c4 [] := fun t q h => (S7 t q h).mv m8 id
    have h18 := h17.keep f8 id
    refine LdC_blk T8.1 rfl ?_
    refine NewC_blk (fun p9 w9 hp9 h9 f9 _ => ?_)
    have m9 : Mv z8 z8 (fun _ => False) w8 w9 := Mv.of f9
    refine ApL T_ok (e := t_p_roots_Stack) rfl rfl rfl (by decide) (own_keepV O8.1 f9 (fun _ _ => id)) (Nat.zero_le _) h9 (news := [ptr b]) rfl rfl rfl (by omega) (show (bs.length + 1) * 8 ≤ 140737488355328 by omega) (fun v' w10 o10 f10 l10 => ?_)
    have m10 : Mv z8 z8 (· = 9) w9 w10 := Mv.ofZ f10 (fun k hk e => O8.2 k e)
    have m810 : Mv z8 z8 (· = 9) w8 w10 := m9.trans m10 (fun _ e => e.elim) (fun _ e => e)
    refine own_slice o10 |>.elim fun a10 ⟨c10, e10⟩ => ?_
    subst e10
    have T10 := T8.1.mv T8.2 m810 (by decide)
    refine StC_blk T10.1 rfl rfl (fun w11 h11 f11 _ => ?_)
    have h11 : Blk w11 hb t_heap_Heap (heapV c (ptr ab) (ptr rb) (ptr ob) (ptr cb) (ptr qb) (ptr sb) (ptr mb) (.slice a10 (bs.length + 1) c10) bf) := h11
    have m11 : Mv z8 z8 (· = 1) w10 w11 := Mv.ofZ f11 (fun k _ e => by rw [e]; exact T8.2)
    have lo : ∀ k, (Value.slice a10 (bs.length + 1) c10).ownBlock = some k → z8 k = 9 ∨ w9.heap.size ≤ k := fun k hk => by
      rcases l10 with e | e
      · exact .inl (O8.2 k (by rw [← e]; exact hk))
      · rw [hk] at e; injection e with e; exact .inr (by omega)
    have Z11 : ∃ z' : Nat → Nat, (∀ k, z' k < 300) ∧ Mv z8 z' (fun i => i = 9 ∨ i = 1) w8 w11 ∧ ∀ k, (Value.slice a10 (bs.length + 1) c10).ownBlock = some k → z' k = 9 := by
      have mt : Mv z8 z8 (fun i => i = 9 ∨ i = 1) w8 w11 := m810.trans m11 (fun _ e => .inl e) (fun _ e => .inr e)
      rcases hob : (Value.slice a10 (bs.length + 1) c10).ownBlock with _ | k
      · exact ⟨z8, zl8, mt, fun k hk => (by cases hk)⟩
      · rcases lo k hob with e | e
        · exact ⟨z8, zl8, mt, fun k' hk => by injection hk with hk; rw [← hk]; exact e⟩
        · exact ⟨zput z8 k 9, zput_lt zl8 (by decide), mt.put (Nat.le_trans f9.size e), fun k' hk => by injection hk with hk; rw [← hk]; exact zput_self⟩
    obtain ⟨z11, zl11, M11, zo11⟩ := Z11
    have T11 : Blk w11 hb t_heap_Heap (heapV c (ptr ab) (ptr rb) (ptr ob) (ptr cb) (ptr qb) (ptr sb) (ptr mb) (.slice a10 (bs.length + 1) c10) bf) ∧ z11 hb = 1 := ⟨h11, (M11.zs hb T8.1.lt).trans T8.2⟩
    have B11 := B8.1.mv B8.2 M11 (by decide)
    have C11 := C8.mv M11 (fun i hi e => by omega)
    have sb8 : b < w8.heap.size := by omega
    have F11 : Fr No w w11 := by
      have f811 := M11.fr
      have f07 : Fr No w w8 := F7.no f8
      refine f07.trans f811 (fun _ _ e => e) (fun k hk e => ?_)
      have e : z8 k = 9 ∨ z8 k = 1 := e
      have zz : z8 k = z7 k := m8.zs k (Nat.lt_of_lt_of_le hk F7.size)
      rw [zz, z07 k hk] at e
      rcases e with e | e <;> cases e
    have F1811 : Fr (fun k => vr.ownBlock = some k ∨ k = hb) w8 w11 := f9.noL (f10.trans f11 (fun _ _ e => .inl e) (fun _ _ e => .inr e))
    refine ⟨(c.c3 - (i + 1)).toNat, _, by omega, ?_, i + 1, rfl, z11, .slice a10 (bs.length + 1) c10, bs ++ [b], ?_, T11, B11, C11, ⟨?_, zo11⟩, ?_, F11, zl11, ?_, h18.keep F1811 ?_, by omega, by omega, rfl⟩
    · exact ⟨rfl, rfl, rfl, look_int rfl (wrap_i64 (by omega) (by omega)), trivial⟩
    · rw [List.length_append]; show ((bs.length + 1 : Nat) : Int) = i + 1; omega
    · rw [List.length_append, List.map_append]
      exact own_keepV o10 f11 (fun k hk e => by
        have e : k = hb := e
        subst e
        rcases lo k hk with e | e
        · rw [T8.2] at e; cases e
        · have := T8.1.lt; have := f9.size; omega)
    · intro t q h
      rcases Nat.lt_or_ge t bs.length with ht | ht
      · rw [List.getElem?_append_left ht] at h
        exact (S8 t q h).mv M11 (fun e => by omega)
      · rw [List.getElem?_append_right ht] at h
        have : t - bs.length = 0 := by
          rcases Nat.eq_zero_or_pos (t - bs.length) with e | e
          · exact e
          · rw [List.getElem?_eq_none (by simp; omega)] at h; cases h
        rw [this] at h
        injection h with h
        subst h
        rw [show t = bs.length by omega]
        exact St8.mv M11 (fun e => by omega)
    · intro k hk
      have : k < w7.heap.size := Nat.lt_of_lt_of_le hk F7.size
      rw [M11.zs k (Nat.lt_of_lt_of_le this f8.size), m8.zs k this]; exact z07 k hk
    · intro e
      rcases e with e | e
      · obtain ⟨cur, hc, _⟩ := own_blk O8.1 p1 e
        have := (h18.inj hc).2
        cases this
      · exact ne1 e
  · have g : ¬ i < c.c3 := g
    have ei : (bs.length : Int) = c.c3 := by omega
    have en : bs.length = c.c3.toNat := by omega
    obtain ⟨Ca, Cr, Co, Cc, Cq, Cs, Cm⟩ := C7
    refine ⟨hb, ⟨ab, rb, ob, cb, qb, sb, mb, bf, vr, bs⟩, z7, rfl, ⟨hV, T7, zh7, Ca, ?_, Cr, ?_, Co, Cc, Cq, ?_, Cs, Cm, O7, zo7, ei, ?_, ?_, B7, zb7, ?_⟩, zl7, z07, F7⟩
    · show ((List.replicate (c.c1 * P c).toNat (0 : Int)).length : Int) = _; rw [List.length_replicate]; omega
    · show ((zeros7 c.c1.toNat).length : Int) = _; unfold zeros7; rw [List.length_replicate]; omega
    · show ((List.replicate c.c3.toNat ([] : List Int)).length : Int) = _; rw [List.length_replicate]; omega
    · show (List.replicate c.c3.toNat ([] : List Int)).length = _; rw [List.length_replicate, en]
    · intro t b l hb hl
      have := (List.mem_replicate.1 (List.mem_of_getElem? hl)).2
      subst this
      exact S7 t b hb
    · show ((List.replicate c.c3.toNat ((0 : Int), (0 : Int))).length : Int) = _; rw [List.length_replicate]; omega
end Go.Proofs.YtdhbpklmkibmbaaGreat
/- Layer 14 (heap): New of what may not be; layer 13's answer: New. -/
namespace Go.Proofs.YtdhbpklmkibmbaaGreat
open Go.Vc

theorem heap_New_bad (c : Cfg) (w : World) (hV : ¬ Valid c) : CallC Pr f_heap_New [cfgV c] w (fun v w' => v = .tuple #[.pointer none, .int .i64 20] ∧ Fr No w w') := by
  refine call_sound T_ok fun_heap_New rfl (by kernel_rfl) rfl (Kp ?_)
  refine NewC_blk (fun p1 w1 hp1 h1 f1 s1 => ?_)
  have h1 : Blk w1 p1 t_api_Config (cfgL c) := h1
  refine LdN_blk (vs := cfgL c) h1 rfl rfl ?_
  refine CallC_intro (geom_New_spec c w1) (fun v w2 ⟨hv, f2⟩ => ?_)
  have hv : v = .tuple #[.agg (geoL 0 0 0 0 0 0).toArray, .int .i64 20] := by
    rcases hv with ⟨h, _⟩ | ⟨_, hv⟩
    · exact absurd h hV
    · exact hv
  subst hv
  refine NewC_blk (fun g w3 hg h3 f3 s3 => ?_)
  refine StN_blk h3 rfl (Nat.le_refl 6) (fun w4 h4 f4 s4 => ?_)
  have f34 : Fr No w2 w4 := f3.new f4 (fun _ _ e => e) (fun k e => by omega)
  exact ⟨rfl, (f1.no f2).no f34⟩

/-- A stack of the abstract heap. -/
structure IsRoots (w : World) (b : Nat) (v : Value) (bound : Int) (l : List Int) : Prop where
  tab : Blk w b t_gleanerref12_Stack [.int .i64 bound, v]
  own : w.ownsRow 0 t_api_Ref 1 v l.length (u64i l)
  b0 : 1 ≤ bound ∧ bound ≤ 64
  n0 : (l.length : Int) ≤ bound
def RootsIn (w : World) (z : Nat → Nat) (i b : Nat) (bound : Int) (l : List Int) : Prop := ∃ v, IsRoots w b v bound l ∧ z b = i ∧ ∀ k, v.ownBlock = some k → z k = i
section
variable {w w' : World} {b : Nat} {v : Value} {bound : Int} {l : List Int}
theorem IsRoots.keep {F : Nat → Prop} (h : IsRoots w b v bound l) (f : Fr F w w') (hb : ¬ F b) (hv : ∀ k, v.ownBlock = some k → ¬ F k) : IsRoots w' b v bound l :=
  ⟨h.tab.keep f hb, own_keepV h.own f hv, h.b0, h.n0⟩
theorem IsRoots.ne (h : IsRoots w b v bound l) : v.ownBlock ≠ some b := by
  intro e
  obtain ⟨cur, hb, _⟩ := own_blk h.own b e
  have := (h.tab.inj hb).2
  cases this
theorem RootsIn.mv {z z' : Nat → Nat} {S : Nat → Prop} {i : Nat} (h : RootsIn w z i b bound l) (m : Mv z z' S w w') (hn : ¬ S i) : RootsIn w' z' i b bound l := by
  obtain ⟨v, h, hb, hv⟩ := h
  exact ⟨v, h.keep m.fr (by rw [hb]; exact hn) (fun k hk => by rw [hv k hk]; exact hn), (m.zs _ h.tab.lt).trans hb, (own_mv h.own hv m hn).2⟩
end
theorem ref12_New_spec (n : Int) (w : World) (h0 : 1 ≤ n) (h1 : n ≤ 64) : CallC Pr f_gleanerref12_New [.int .i64 n] w
    (fun v w' => ∃ b, v = .tuple #[.pointer (some ⟨b, 0, none⟩), .int .i64 0] ∧ IsRoots w' b (.slice none 0 0) n [] ∧ Fr No w w' ∧ b = w.heap.size ∧ w'.heap.size = b + 1) := by
  refine call_sound T_ok fun_gleanerref12_New rfl (by kernel_rfl) rfl (Kp ?_)
  refine Br_df (show ¬ n < 1 by omega) ?_
  refine Br_df (show ¬ n > 64 by omega) ?_
  refine NewC_blk (fun b w3 hb h3 f3 s3 => ?_)
  exact ⟨b, rfl, ⟨h3, World.ownsRow_nil _ _ _ _, ⟨h0, h1⟩, (show (0 : Int) ≤ n by omega)⟩, f3, hb, s3⟩

/-- Where the abstract heap's parts are. -/
structure GP where
  dr : Nat
  vo : Value
  vs : Value
  bs : List Nat
/-- The abstract heap: how large an object may be, the stacks' bound, what each thread did, the stacks. Objects: their references, their data. -/
structure GS where
  max : Int
  bound : Int
  done : List Int
  stacks : List (List Int)
  objs : List (List Int × List Int)
def objL (l : List (Value × Value)) : List Value := l.flatMap fun x => [x.1, x.2]
structure GraphAt (w : World) (z : Nat → Nat) (gb : Nat) (p : GP) (s : GS) : Prop where
  tab : Blk w gb t_gleanerref13_Graph [.int .i64 s.max, p.vo, p.vs, .slice (some ⟨p.dr, 0, none⟩) s.done.length s.done.length]
  tabz : z gb = 301
  done : Blk w p.dr t_int (ints s.done)
  donez : z p.dr = 302
  row : w.ownsRow 0 t_p_gleanerref12_Stack 1 p.vs p.bs.length (p.bs.map ptr)
  rowz : ∀ k, p.vs.ownBlock = some k → z k = 303
  lens : s.stacks.length = p.bs.length ∧ s.done.length = p.bs.length
  stacks : ∀ (t b : Nat) (l : List Int), p.bs[t]? = some b → s.stacks[t]? = some l → RootsIn w z (400 + t) b s.bound l
  objs : ∃ ov : List (Value × Value), ov.length = s.objs.length ∧ w.ownsRow 0 t_gleanerref13_Object 2 p.vo ov.length (objL ov) ∧ (∀ k, p.vo.ownBlock = some k → z k = 304) ∧
    ∀ (j : Nat) (x : Value × Value) (o : List Int × List Int), ov[j]? = some x → s.objs[j]? = some o → (w.ownsRow 0 t_api_Ref 1 x.1 o.1.length (u64i o.1) ∧ ∀ k, x.1.ownBlock = some k → z k = 1000 + 2 * j) ∧
      (w.ownsRow 0 t_uint64 1 x.2 o.2.length (u64i o.2) ∧ ∀ k, x.2.ownBlock = some k → z k = 1001 + 2 * j)
theorem own_mv2 {z z' : Nat → Nat} {S : Nat → Prop} {w w' : World} {i e n m : Nat} {v : Value} {xs : List Value} (h : w.ownsRow 0 e m v n xs) (hz : ∀ k, v.ownBlock = some k → z k = i) (mm : Mv z z' S w w') (hn : ¬ S i) : w'.ownsRow 0 e m v n xs ∧ ∀ k, v.ownBlock = some k → z' k = i :=
  ⟨own_keepV h mm.fr (fun k hk => by rw [hz k hk]; exact hn), fun k hk => (mm.zs k (by obtain ⟨cur, hb, _⟩ := own_blk h k hk; exact hb.lt)).trans (hz k hk)⟩
theorem GraphAt.mv {w w' : World} {z z' : Nat → Nat} {S : Nat → Prop} {gb : Nat} {p : GP} {s : GS} (h : GraphAt w z gb p s) (m : Mv z z' S w w') (hn : ∀ i, (301 ≤ i ∧ i ≤ 304) ∨ (400 ≤ i ∧ i < 400 + p.bs.length) ∨ 1000 ≤ i → ¬ S i) : GraphAt w' z' gb p s := by
  have h1 := h.tab.mv h.tabz m (hn _ (by omega))
  have h2 := h.done.mv h.donez m (hn _ (by omega))
  have h3 := own_mv h.row h.rowz m (hn _ (by omega))
  obtain ⟨ov, o1, o2, o3, o4⟩ := h.objs
  have h4 := own_mv2 o2 o3 m (hn _ (by omega))
  exact ⟨h1.1, h1.2, h2.1, h2.2, h3.1, h3.2, h.lens, fun t b l hb hl => (h.stacks t b l hb hl).mv m (hn _ (by have := (List.getElem?_eq_some_iff.1 hb).1; omega)),
    ov, o1, h4.1, h4.2, fun j x o hx ho => ⟨own_mv (o4 j x o hx ho).1.1 (o4 j x o hx ho).1.2 m (hn _ (by omega)), own_mv (o4 j x o hx ho).2.1 (o4 j x o hx ho).2.2 m (hn _ (by omega))⟩⟩
end Go.Proofs.YtdhbpklmkibmbaaGreat
/- Layer 13's answer: New. -/
namespace Go.Proofs.YtdhbpklmkibmbaaGreat
open Go.Vc

def Q5 (i : Nat) : Prop := i < 500 ∧ (i < 310 ∨ 400 ≤ i)
def graphL (x : Int) (vs : Value) (dr n : Nat) : List Value := [.int .i64 x, .slice none 0 0, vs, .slice (some ⟨dr, 0, none⟩) n n]
set_option maxHeartbeats 1000000 in
theorem ref13_New_spec (n m x : Int) (z : Nat → Nat) (w : World) (hn : 1 ≤ n ∧ n ≤ 64) (hm : 1 ≤ m ∧ m ≤ 64) (hx : 1 ≤ x ∧ x ≤ 1048576) (hz : ∀ k, z k < 300) :
    CallC Pr f_gleanerref13_New [.int .i64 n, .int .i64 m, .int .i64 x] w (fun v w' =>
      ∃ gb p z', v = .tuple #[ptr gb, .int .i64 0] ∧ GraphAt w' z' gb p ⟨x, m, List.replicate n.toNat 0, List.replicate n.toNat [], []⟩ ∧ (∀ k, Q5 (z' k)) ∧ Mv z z' (fun _ => False) w w') := by
  refine call_sound T_ok fun_gleanerref13_New rfl (by kernel_rfl) rfl (Kp ?_)
  refine Br_df (show ¬ n < 1 by omega) ?_
  refine Br_df (show ¬ n > 64 by omega) ?_
  refine Br_df (show ¬ m < 1 by omega) ?_
  refine Br_df (show ¬ m > 64 by omega) ?_
  refine Br_df (show ¬ x < 1 by omega) ?_
  refine Br_df (show ¬ x > 1048576 by omega) ?_
  refine MkC T_ok (z := .int .i64 0) rfl rfl rfl rfl (n := n) (by omega) (by omega) (show (8 : Int) * n ≤ _ by omega) (fun dr w1 hdr h1 f1 s1 => ?_)
  refine NewC_blk (fun gb w2 hgb h2 f2 s2 => ?_)
  have h2 : Blk w2 gb t_gleanerref13_Graph (graphL x (.slice none 0 0) dr n.toNat) := h2
  have h1 := h1.keep f2 id
  have F2 := f1.no f2
  have sz1 := f1.size
  obtain ⟨z2, zl2, y1, y2, zs2⟩ : ∃ z' : Nat → Nat, (∀ k, Q5 (z' k)) ∧ z' gb = 301 ∧ z' dr = 302 ∧ ∀ k, k < w.heap.size → z' k = z k :=
    ⟨zput (zput z gb 301) dr 302, zput_all (Q := Q5) (zput_all (Q := Q5) (fun k => by have := hz k; unfold Q5; omega) (by unfold Q5; omega)) (by unfold Q5; omega), by rw [zput_ne (by omega), zput_self], zput_self, fun k hk => by rw [zput_ne (by omega), zput_ne (by omega)]⟩
  refine LoopC_intro (α := Int) (fun i => [(0, .int .i64 n), (1, .int .i64 m), (8, ptr gb), (9, .int .i64 i)])
    (fun q i w' => ∃ (z' : Nat → Nat) (vr : Value) (bs : List Nat), (bs.length : Int) = i ∧ (Blk w' gb t_gleanerref13_Graph (graphL x vr dr n.toNat) ∧ z' gb = 301) ∧ (Blk w' dr t_int (List.replicate n.toNat (.int .i64 0)) ∧ z' dr = 302) ∧
      (w'.ownsRow 0 t_p_gleanerref12_Stack 1 vr bs.length (bs.map ptr) ∧ ∀ k, vr.ownBlock = some k → z' k = 303) ∧ (∀ (t b : Nat), bs[t]? = some b → RootsIn w' z' (400 + t) b m []) ∧
      Fr No w w' ∧ (∀ k, Q5 (z' k)) ∧ (∀ k, k < w.heap.size → z' k = z k) ∧ 0 ≤ i ∧ i ≤ n ∧ q = (n - i).toNat)
    (n - 0 : Int).toNat 0 ⟨rfl, rfl, rfl, rfl, trivial⟩ ⟨z2, .slice none 0 0, [], rfl, ⟨h2, y1⟩, ⟨h1, y2⟩, ⟨World.ownsRow_nil _ _ _ _, fun k hk => (by cases hk)⟩, fun t b h => (by cases h), F2, zl2, zs2, Int.le_refl _, (show (0 : Int) ≤ n by omega), rfl⟩ (fun q i w7 hJ => Kp ?_)
  obtain ⟨z7, vr, bs, hbs, ⟨T7, zh7⟩, ⟨B7, zb7⟩, ⟨O7, zo7⟩, S7, F7, zl7, z07, i0, i1, hq⟩ := hJ
  have i0 : 0 ≤ i := i0
  have i1 : i ≤ n := i1
  refine Br_dec (fun g => ?_) (fun g => ?_)
  · have g : i < n := g
    refine CallC_intro (ref12_New_spec m w7 hm.1 hm.2) (fun v w8 ⟨b, hv, hS, f8, hb8, s8⟩ => ?_)
    subst hv
    have mm8 : Mv z7 (zput z7 b (400 + bs.length)) (fun _ => False) w7 w8 := (Mv.of f8).put (by omega)
    obtain ⟨z8, zl8, m8, y8⟩ : ∃ z' : Nat → Nat, (∀ k, Q5 (z' k)) ∧ Mv z7 z' (fun _ => False) w7 w8 ∧ z' b = 400 + bs.length := ⟨_, zput_all (Q := Q5) zl7 (by unfold Q5; omega), mm8, zput_self⟩
    have St8 : RootsIn w8 z8 (400 + bs.length) b m [] := ⟨_, hS, y8, fun k hk => (by cases hk)⟩
    have T8 := T7.mv zh7 m8 id
    have B8 := B7.mv zb7 m8 id
    have O8 := own_mv O7 zo7 m8 id
    have S8 : ∀ (t q : Nat), bs[t]? = some q → RootsIn w8 z8 (400 + t) q m [] := fun t q h => (S7 t q h).mv m8 id
    refine LdC_blk T8.1 rfl ?_
    refine NewC_blk (fun p9 w9 hp9 h9 f9 _ => ?_)
    have m9 : Mv z8 z8 (fun _ => False) w8 w9 := Mv.of f9
    refine ApL T_ok (e := t_p_gleanerref12_Stack) rfl rfl rfl (by decide) (own_keepV O8.1 f9 (fun _ _ => id)) (Nat.zero_le _) h9 (news := [ptr b]) rfl rfl rfl (by omega) (show (bs.length + 1) * 8 ≤ 140737488355328 by omega) (fun v' w10 o10 f10 l10 => ?_)
    have m10 : Mv z8 z8 (· = 303) w9 w10 := Mv.ofZ f10 (fun k hk e => O8.2 k e)
    have m810 : Mv z8 z8 (· = 303) w8 w10 := m9.trans m10 (fun _ e => e.elim) (fun _ e => e)
    refine own_slice o10 |>.elim fun a10 ⟨c10, e10⟩ => ?_
    subst e10
    have T10 := T8.1.mv T8.2 m810 (by decide)
    refine StC_blk T10.1 rfl rfl (fun w11 h11 f11 _ => ?_)
    have h11 : Blk w11 gb t_gleanerref13_Graph (graphL x (.slice a10 (bs.length + 1) c10) dr n.toNat) := h11
    have m11 : Mv z8 z8 (· = 301) w10 w11 := Mv.ofZ f11 (fun k _ e => by rw [e]; exact T8.2)
    have lo : ∀ k, (Value.slice a10 (bs.length + 1) c10).ownBlock = some k → z8 k = 303 ∨ w9.heap.size ≤ k := fun k hk => by
      rcases l10 with e | e
      · exact .inl (O8.2 k (by rw [← e]; exact hk))
      · rw [hk] at e; injection e with e; exact .inr (by omega)
    have Z11 : ∃ z' : Nat → Nat, (∀ k, Q5 (z' k)) ∧ Mv z8 z' (fun i => i = 303 ∨ i = 301) w8 w11 ∧ ∀ k, (Value.slice a10 (bs.length + 1) c10).ownBlock = some k → z' k = 303 := by
      have mt : Mv z8 z8 (fun i => i = 303 ∨ i = 301) w8 w11 := m810.trans m11 (fun _ e => .inl e) (fun _ e => .inr e)
      rcases hob : (Value.slice a10 (bs.length + 1) c10).ownBlock with _ | k
      · exact ⟨z8, zl8, mt, fun k hk => (by cases hk)⟩
      · rcases lo k hob with e | e
        · exact ⟨z8, zl8, mt, fun k' hk => by injection hk with hk; rw [← hk]; exact e⟩
        · exact ⟨zput z8 k 303, zput_all (Q := Q5) zl8 (by unfold Q5; omega), mt.put (Nat.le_trans f9.size e), fun k' hk => by injection hk with hk; rw [← hk]; exact zput_self⟩
    obtain ⟨z11, zl11, M11, zo11⟩ := Z11
    have T11 : Blk w11 gb t_gleanerref13_Graph (graphL x (.slice a10 (bs.length + 1) c10) dr n.toNat) ∧ z11 gb = 301 := ⟨h11, (M11.zs gb T8.1.lt).trans T8.2⟩
    have B11 := B8.1.mv B8.2 M11 (by decide)
    have F11 : Fr No w w11 := by
      refine (F7.no f8).trans M11.fr (fun _ _ e => e) (fun k hk e => ?_)
      have e : z8 k = 303 ∨ z8 k = 301 := e
      have zz : z8 k = z7 k := m8.zs k (Nat.lt_of_lt_of_le hk F7.size)
      rw [zz, z07 k hk] at e
      have := hz k
      omega
    refine ⟨(n - (i + 1)).toNat, _, by omega, ?_, i + 1, rfl, z11, .slice a10 (bs.length + 1) c10, bs ++ [b], ?_, T11, B11, ⟨?_, zo11⟩, ?_, F11, zl11, ?_, by omega, by omega, rfl⟩
    · exact ⟨rfl, rfl, rfl, look_int rfl (wrap_i64 (by omega) (by omega)), trivial⟩
    · rw [List.length_append]; show ((bs.length + 1 : Nat) : Int) = i + 1; omega
    · rw [List.length_append, List.map_append]
      exact own_keepV o10 f11 (fun k hk e => by
        have e : k = gb := e
        subst e
        rcases lo k hk with e | e
        · rw [T8.2] at e; cases e
        · have := T8.1.lt; have := f9.size; omega)
    · intro t q h
      rcases Nat.lt_or_ge t bs.length with ht | ht
      · rw [List.getElem?_append_left ht] at h
        exact (S8 t q h).mv M11 (fun e => by omega)
      · rw [List.getElem?_append_right ht] at h
        have : t - bs.length = 0 := by
          rcases Nat.eq_zero_or_pos (t - bs.length) with e | e
          · exact e
          · rw [List.getElem?_eq_none (by simp; omega)] at h; cases h
        rw [this] at h
        injection h with h
        subst h
        rw [show t = bs.length by omega]
        exact St8.mv M11 (fun e => by omega)
    · intro k hk
      have : k < w7.heap.size := Nat.lt_of_lt_of_le hk F7.size
      rw [M11.zs k (Nat.lt_of_lt_of_le this f8.size), m8.zs k this]; exact z07 k hk
  · have g : ¬ i < n := g
    have ei : (bs.length : Int) = n := by omega
    have en : bs.length = n.toNat := by omega
    refine ⟨gb, ⟨dr, .slice none 0 0, vr, bs⟩, z7, rfl, ⟨?_, zh7, ?_, zb7, O7, zo7, ⟨?_, ?_⟩, ?_, ?_⟩, zl7, ⟨F7.weak (fun _ _ e => e.elim), z07⟩⟩
    · show Blk _ _ _ [_, _, _, .slice _ (List.replicate n.toNat (0 : Int)).length (List.replicate n.toNat (0 : Int)).length]
      rw [List.length_replicate]; exact T7
    · show Blk _ _ _ (ints (List.replicate n.toNat 0))
      have : ints (List.replicate n.toNat 0) = List.replicate n.toNat (.int .i64 0) := by simp [ints]
      rw [this]; exact B7
    · show (List.replicate n.toNat ([] : List Int)).length = _; rw [List.length_replicate, en]
    · show (List.replicate n.toNat (0 : Int)).length = _; rw [List.length_replicate, en]
    · intro t b l hb hl
      have := (List.mem_replicate.1 (List.mem_of_getElem? hl)).2
      subst this
      exact S7 t b hb
    · exact ⟨[], rfl, World.ownsRow_nil _ _ _ _, fun k hk => (by cases hk), fun j x o h => (by cases h)⟩
end Go.Proofs.YtdhbpklmkibmbaaGreat
/- Layer 15 (mutate): a mutator's small steps. -/
namespace Go.Proofs.YtdhbpklmkibmbaaGreat
open Go.Vc

structure Mu where
  done : Int
  phase : Int
  k : Int
  a : Int
  b : Int
  c : Int
  v : Int
  pos : Int
def mutL (hb sh : Nat) (t : Int) (m : Mu) : List Value := [ptr hb, ptr sh, .int .i64 t, .int .i64 m.done, .int .i64 m.phase, .int .i64 m.k, .int .i64 m.a, .int .i64 m.b, .int .i64 m.c, .int .u64 m.v, .int .i64 m.pos]
def newM : Mu := ⟨0, 0, 0, 0, 0, 0, 0, 0⟩
def opL (k a b c v : Int) : List Value := [.int .i64 k, .int .i64 a, .int .i64 b, .int .i64 c, .int .u64 v]
def ansL (t d e x : Int) (bit : Bool) : List Value := [.int .i64 t, .int .i64 d, .int .i64 e, .int .u64 x, .bool bit]
def ans0 : List Value := ansL 0 0 0 0 false
def resL (an : List Value) (d b w : Bool) (l : Value) : List Value := an ++ [.bool d, .bool b, .bool w, l]
def res0 : List Value := resL ans0 false false false (.slice none 0 0)
theorem Idle_nil (w : World) : CallC Pr f_mutate_Mutator_Idle [.pointer none] w (fun v w' => v = .bool false ∧ Fr No w w') := by
  refine call_sound T_ok fun_mutate_Mutator_Idle rfl (by kernel_rfl) rfl (Kp ?_)
  exact ⟨rfl, Fr.refl _ _⟩
theorem Idle_spec {mb hb sh : Nat} {t : Int} {m : Mu} (w : World) (h : Blk w mb t_mutate_Mutator (mutL hb sh t m)) : CallC Pr f_mutate_Mutator_Idle [ptr mb] w (fun v w' => v = .bool (decide (m.phase = 0)) ∧ Fr No w w') := by
  refine call_sound T_ok fun_mutate_Mutator_Idle rfl (by kernel_rfl) rfl (Kp ?_)
  refine LdC_blk h rfl ?_
  exact ⟨rfl, Fr.refl _ _⟩
theorem Start_nil (k a b c v : Int) (w : World) : CallC Pr f_mutate_Mutator_Start [.pointer none, .agg (opL k a b c v).toArray] w (fun r w' => r = .int .i64 1 ∧ Fr No w w') := by
  refine call_sound T_ok fun_mutate_Mutator_Start rfl (by kernel_rfl) rfl (Kp ?_)
  refine NewC_blk (fun p w1 hp h1 f1 _ => ?_)
  exact ⟨rfl, f1⟩
theorem Start_busy {mb hb sh : Nat} {t : Int} {m : Mu} (k a b c v : Int) (w : World) (h : Blk w mb t_mutate_Mutator (mutL hb sh t m)) (hp : m.phase ≠ 0) :
    CallC Pr f_mutate_Mutator_Start [ptr mb, .agg (opL k a b c v).toArray] w (fun r w' => r = .int .i64 3 ∧ Fr No w w') := by
  refine call_sound T_ok fun_mutate_Mutator_Start rfl (by kernel_rfl) rfl (Kp ?_)
  refine NewC_blk (fun p w1 _ h1 f1 _ => ?_)
  refine LdC_blk (h.keep f1 id) rfl ?_
  refine Br_nt hp ?_
  exact ⟨rfl, f1⟩
theorem Start_spec {mb hb sh : Nat} {t : Int} {m : Mu} (k a b c v : Int) (w : World) (h : Blk w mb t_mutate_Mutator (mutL hb sh t m)) (hp : m.phase = 0) :
    CallC Pr f_mutate_Mutator_Start [ptr mb, .agg (opL k a b c v).toArray] w
      (fun r w' => r = .int .i64 0 ∧ Blk w' mb t_mutate_Mutator (mutL hb sh t ⟨m.done, 1, k, a, b, c, v, m.pos⟩) ∧ Fr (· = mb) w w') := by
  refine call_sound T_ok fun_mutate_Mutator_Start rfl (by kernel_rfl) rfl (Kp ?_)
  refine NewC_blk (fun p w1 hp' h1 f1 _ => ?_)
  have h1 : Blk w1 p t_api_Op (opL k a b c v) := h1
  have hm := h.keep f1 id
  refine LdC_blk hm rfl ?_
  refine Br_nf hp ?_
  refine LdN_blk (vs := opL k a b c v) h1 rfl rfl ?_
  refine StN_blk hm rfl (Nat.le_of_ble_eq_true rfl) (fun w2 h2 f2 _ => ?_)
  have h2 : Blk w2 mb t_mutate_Mutator (mutL hb sh t ⟨m.done, m.phase, k, a, b, c, v, m.pos⟩) := h2
  refine StC_blk h2 rfl rfl (fun w3 h3 f3 _ => ?_)
  exact ⟨rfl, h3, f1.noL (f2.same f3)⟩
theorem Fail_nil (w : World) : CallC Pr f_mutate_Mutator_Fail [.pointer none] w (fun r w' => r = .tuple #[.agg ans0.toArray, .int .i64 1] ∧ Fr No w w') := by
  refine call_sound T_ok fun_mutate_Mutator_Fail rfl (by kernel_rfl) rfl (Kp ?_)
  refine NewC_blk (fun p w1 hp h1 f1 _ => ?_)
  refine StN_blk h1 rfl (Nat.le_of_ble_eq_true rfl) (fun w2 h2 f2 _ => ?_)
  have h2 : Blk w2 p t_api_Answer ans0 := h2
  refine LdN_blk (vs := ans0) h2 rfl rfl ?_
  exact ⟨rfl, f1.new f2 (fun _ _ e => e) (fun k e => by omega)⟩
theorem Fail_not {mb hb sh : Nat} {t : Int} {m : Mu} (w : World) (h : Blk w mb t_mutate_Mutator (mutL hb sh t m)) (hp : m.phase ≠ 6) :
    CallC Pr f_mutate_Mutator_Fail [ptr mb] w (fun r w' => r = .tuple #[.agg ans0.toArray, .int .i64 3] ∧ Fr No w w') := by
  refine call_sound T_ok fun_mutate_Mutator_Fail rfl (by kernel_rfl) rfl (Kp ?_)
  refine NewC_blk (fun p w1 hp' h1 f1 _ => ?_)
  refine LdC_blk (h.keep f1 id) rfl ?_
  refine Br_nt hp ?_
  refine StN_blk h1 rfl (Nat.le_of_ble_eq_true rfl) (fun w2 h2 f2 _ => ?_)
  have h2 : Blk w2 p t_api_Answer ans0 := h2
  refine LdN_blk (vs := ans0) h2 rfl rfl ?_
  exact ⟨rfl, f1.new f2 (fun _ _ e => e) (fun k e => by omega)⟩
theorem Step_nil (w : World) : CallC Pr f_mutate_Mutator_Step [.pointer none] w (fun r w' => r = .agg res0.toArray ∧ Fr No w w') := by
  refine call_sound T_ok fun_mutate_Mutator_Step rfl (by kernel_rfl) rfl (Kp ?_)
  refine NewC_blk (fun p w1 hp h1 f1 _ => ?_)
  refine StN_blk h1 rfl (Nat.le_of_ble_eq_true rfl) (fun w2 h2 f2 _ => ?_)
  have h2 : Blk w2 p t_mutate_Result res0 := h2
  refine LdN_blk (vs := res0) h2 rfl rfl ?_
  exact ⟨rfl, f1.new f2 (fun _ _ e => e) (fun k e => by omega)⟩
theorem answer_spec {mb hb sh : Nat} {t : Int} {m : Mu} (e x : Int) (bit : Bool) (w : World) (h : Blk w mb t_mutate_Mutator (mutL hb sh t m)) :
    CallC Pr f_mutate_Mutator_answer [ptr mb, .int .i64 e, .int .u64 x, .bool bit] w (fun r w' => r = .agg (resL (ansL t m.done e x bit) true false false (.slice none 0 0)).toArray ∧
      Blk w' mb t_mutate_Mutator (mutL hb sh t ⟨IntKind.i64.wrap (m.done + 1), 0, m.k, m.a, m.b, m.c, m.v, m.pos⟩) ∧ Fr (· = mb) w w') := by
  refine call_sound T_ok fun_mutate_Mutator_answer rfl (by kernel_rfl) rfl (Kp ?_)
  refine NewC_blk (fun p w1 hp h1 f1 s1 => ?_)
  have hl := h.lt
  have hm := h.keep f1 id
  refine AnyC_plan T_ok mixed (planO [0,1,2,3,4,5,6,7,8,9,10,11,1012,1013]) (Old w1.drew) (by kernel_rfl) (by kernel_rfl) (fun _ _ => rfl) (Kp ?_)
  have hm := hm.keep (Fr.drew w1) id
  refine LdS_blk hm rfl ?_
  refine LdS_blk hm rfl ?_
  refine ⟨?_, trivial⟩
  refine NewC_blk (fun q w2 hq h2 f2 s2 => ?_)
  refine Sd_intro f2.old ?_
  refine ⟨?_, trivial⟩
  refine StN_blk h2 rfl (Nat.le_of_ble_eq_true rfl) (fun w3 h3 f3 s3 => ?_)
  have h3 : Blk w3 q t_api_Answer (ansL t m.done e x bit) := h3
  have f23 : Fr No w1.drew w3 := f2.new f3 (fun _ _ e => e) (fun k e => by omega)
  refine Sd_intro f23.old ?_
  have hm := hm.keep f23 id
  refine LdC_blk hm rfl ?_
  refine StC_blk hm rfl rfl (fun w4 h4 f4 s4 => ?_)
  have h4 : Blk w4 mb t_mutate_Mutator (mutL hb sh t ⟨IntKind.i64.wrap (m.done + 1), m.phase, m.k, m.a, m.b, m.c, m.v, m.pos⟩) := h4
  refine StC_blk h4 rfl rfl (fun w5 h5 f5 s5 => ?_)
  have sd : w1.drew.heap.size = w1.heap.size := rfl
  have f45 := f4.same f5
  have np : p ≠ mb := by omega
  have nq : q ≠ mb := by omega
  have h3 := h3.keep f45 nq
  have F15 : Fr (· = mb) w w5 := (f1.no ((Fr.drew w1).no f23)).noL f45
  refine LdN_blk (vs := ansL t m.done e x bit) h3 rfl rfl ?_
  have hP : Blk w5 p t_mutate_Result res0 := (h1.keep ((Fr.drew w1).no f23) id).keep f45 np
  refine StN_blk hP rfl (Nat.le_of_ble_eq_true rfl) (fun w6 h6 f6 s6 => ?_)
  have h6 : Blk w6 p t_mutate_Result (resL (ansL t m.done e x bit) true false false (.slice none 0 0)) := h6
  refine LdN_blk (vs := resL (ansL t m.done e x bit) true false false (.slice none 0 0)) h6 rfl rfl ?_
  exact ⟨rfl, h5.keep f6 np.symm, F15.new f6 (fun _ _ e => e) (fun k e => by omega)⟩
theorem on_spec {mb hb sh : Nat} {t : Int} {m : Mu} (ph : Int) (w : World) (h : Blk w mb t_mutate_Mutator (mutL hb sh t m)) :
    CallC Pr f_mutate_Mutator_on [ptr mb, .int .i64 ph] w (fun r w' => r = .agg (resL ans0 false true false (.slice none 0 0)).toArray ∧ Blk w' mb t_mutate_Mutator (mutL hb sh t ⟨m.done, ph, m.k, m.a, m.b, m.c, m.v, m.pos⟩) ∧ Fr (· = mb) w w') := by
  refine call_sound T_ok fun_mutate_Mutator_on rfl (by kernel_rfl) rfl (Kp ?_)
  refine NewC_blk (fun p w1 hp h1 f1 s1 => ?_)
  have hl := h.lt
  have h1 : Blk w1 p t_mutate_Result res0 := h1
  refine StC_blk (h.keep f1 id) rfl rfl (fun w2 h2 f2 s2 => ?_)
  have np : p ≠ mb := by omega
  have h1 := h1.keep f2 np
  refine StN_blk h1 rfl (Nat.le_of_ble_eq_true rfl) (fun w3 h3 f3 s3 => ?_)
  have h3 : Blk w3 p t_mutate_Result (resL ans0 false true false (.slice none 0 0)) := h3
  refine LdN_blk (vs := resL ans0 false true false (.slice none 0 0)) h3 rfl rfl ?_
  exact ⟨rfl, h2.keep f3 np.symm, (f1.noL f2).new f3 (fun _ _ e => e) (fun k e => by omega)⟩
end Go.Proofs.YtdhbpklmkibmbaaGreat
/- Layer 15 (mutate): New. -/
namespace Go.Proofs.YtdhbpklmkibmbaaGreat
open Go.Vc

def heapP (hb : Nat) : Value := ptr hb
theorem mutate_New_nilH (t : Int) (sv : Value) (w : World) (hs : ∃ o, sv = .pointer o) : CallC Pr f_mutate_New [.pointer none, .int .i64 t, sv] w (fun r w' => r = .tuple #[.pointer none, .int .i64 1] ∧ Fr No w w') := by
  obtain ⟨o, rfl⟩ := hs
  refine call_sound T_ok fun_mutate_New rfl (by kernel_rfl) rfl (Kp ?_)
  exact ⟨rfl, Fr.refl _ _⟩
theorem mutate_New_nilS (t : Int) (hb : Nat) (w : World) : CallC Pr f_mutate_New [ptr hb, .int .i64 t, .pointer none] w (fun r w' => r = .tuple #[.pointer none, .int .i64 1] ∧ Fr No w w') := by
  refine call_sound T_ok fun_mutate_New rfl (by kernel_rfl) rfl (Kp ?_)
  exact ⟨rfl, Fr.refl _ _⟩
theorem mutate_New_range {c : Cfg} {p : HP} {hb sh : Nat} {z : Nat → Nat} {s : HS} {mk : Value} {oa : Option Addr} {oc : Nat} (t : Int) (w : World) (h : HeapAt w z c hb p s) (_hs : Blk w sh t_mutate_Shared [mk, .slice oa p.bs.length oc]) (ht : ¬ (0 ≤ t ∧ t < (p.bs.length : Int))) :
    CallC Pr f_mutate_New [ptr hb, .int .i64 t, ptr sh] w (fun r w' => r = .tuple #[.pointer none, .int .i64 2] ∧ Fr No w w') := by
  obtain ⟨ra, rc, hr⟩ := own_slice h.rootr
  have hT : Blk w hb t_heap_Heap (cfgL c ++ geoC c ++ [ptr p.ab, ptr p.rb, ptr p.ob, ptr p.cb, ptr p.qb, ptr p.sb, ptr p.mb, .slice ra p.bs.length rc, .slice (some ⟨p.bf, 0, none⟩) c.c3.toNat c.c3.toNat]) := by
    have := h.tab; unfold heapL at this; rw [hr] at this; exact this
  refine call_sound T_ok fun_mutate_New rfl (by kernel_rfl) rfl (Kp ?_)
  refine AnyC_lex T_ok mixed (by kernel_rfl) (by kernel_rfl) (Kp ?_)
  refine Br_dec (fun g => ?_) (fun g => ?_)
  · exact ⟨rfl, Fr.drew _⟩
  · have g : ¬ t < 0 := g
    refine LdS_blk hT rfl ?_
    refine Br_dt (show t ≥ (p.bs.length : Int) by omega) ?_
    exact ⟨rfl, Fr.drew _⟩
theorem mutate_New_spec {c : Cfg} {p : HP} {hb sh : Nat} {z : Nat → Nat} {s : HS} {mk : Value} {oa : Option Addr} {oc : Nat} (t : Int) (w : World) (h : HeapAt w z c hb p s) (hs : Blk w sh t_mutate_Shared [mk, .slice oa p.bs.length oc]) (ht : 0 ≤ t ∧ t < (p.bs.length : Int)) :
    CallC Pr f_mutate_New [ptr hb, .int .i64 t, ptr sh] w (fun r w' => ∃ mb, r = .tuple #[ptr mb, .int .i64 0] ∧ Blk w' mb t_mutate_Mutator (mutL hb sh t newM) ∧ Fr No w w' ∧ mb = w.heap.size ∧ w'.heap.size = mb + 1) := by
  obtain ⟨ra, rc, hr⟩ := own_slice h.rootr
  have hT : Blk w hb t_heap_Heap (cfgL c ++ geoC c ++ [ptr p.ab, ptr p.rb, ptr p.ob, ptr p.cb, ptr p.qb, ptr p.sb, ptr p.mb, .slice ra p.bs.length rc, .slice (some ⟨p.bf, 0, none⟩) c.c3.toNat c.c3.toNat]) := by
    have := h.tab; unfold heapL at this; rw [hr] at this; exact this
  refine call_sound T_ok fun_mutate_New rfl (by kernel_rfl) rfl (Kp ?_)
  refine AnyC_lex T_ok mixed (by kernel_rfl) (by kernel_rfl) (Kp ?_)
  refine Br_df (show ¬ t < 0 by omega) ?_
  refine LdS_blk hT rfl ?_
  refine Br_df (show ¬ t ≥ (p.bs.length : Int) by omega) ?_
  refine LdS_blk hs rfl ?_
  refine LdS_blk hT rfl ?_
  refine Br_nf rfl ?_
  refine NewC_blk (fun mb w1 hmb h1 f1 s1 => ?_)
  exact ⟨mb, rfl, h1, (Fr.drew w).no f1, hmb, s1⟩
end Go.Proofs.YtdhbpklmkibmbaaGreat
/- Layer 4 (head): Pack of objects; layer 5: Make. -/
namespace Go.Proofs.YtdhbpklmkibmbaaGreat
open Go.Vc

/-- A header's word. -/
def headW (size ptrs age : Int) : Int := 1 + 4 * size + 8388608 * ptrs + 17592186044416 * age
def hdL (k size ptrs age to : Int) : List Value := [.int .i64 k, .int .i64 size, .int .i64 ptrs, .int .i64 age, .int .i64 to]
theorem or_word {size ptrs age : Nat} (hs : size < 2 ^ 21) (hp : ptrs < 2 ^ 21) : (1 ||| (ptrs * 2 ^ 23 ||| age * 2 ^ 44)) ||| size * 2 ^ 2 = 1 + 4 * size + 8388608 * ptrs + 17592186044416 * age := by
  have a1 := Nat.two_pow_add_eq_or_of_lt (show ptrs * 2 ^ 23 < 2 ^ 44 by omega) age
  have h1 : ptrs * 2 ^ 23 ||| age * 2 ^ 44 = 2 ^ 23 * (2 ^ 21 * age + ptrs) := by
    rw [Nat.or_comm, Nat.mul_comm age, ← a1]; omega
  have a2 := Nat.two_pow_add_eq_or_of_lt (show 1 + 4 * size < 2 ^ 23 by omega) (2 ^ 21 * age + ptrs)
  have a3 := Nat.two_pow_add_eq_or_of_lt (show 1 < 2 ^ 2 by decide) size
  have h3 : 1 ||| size * 2 ^ 2 = 1 + 4 * size := by rw [Nat.or_comm, Nat.mul_comm size, ← a3]; omega
  rw [h1, Nat.or_comm 1, Nat.or_assoc, h3, ← a2]
  omega
theorem shl_u64 {x : Nat} {n : Nat} (h : n ≤ 64) (hx : x * 2 ^ n < 2 ^ 64) : shiftV .shl .u64 (x : Int) n = ((x * 2 ^ n : Nat) : Int) := by
  unfold shiftV
  rw [show IntKind.u64.bits = 64 from rfl, Nat.min_eq_left h]
  have : ((x : Int) * 2 ^ n) = ((x * 2 ^ n : Nat) : Int) := by push_cast; rfl
  show IntKind.u64.wrap ((x : Int) * 2 ^ n) = _
  rw [this, wrap_u64 (by omega) (by omega)]
theorem bd_ptrs {p : Nat} (h : p < 2 ^ 21) : p * 2 ^ 23 < 2 ^ 64 := by omega
theorem bd_age {p : Nat} (h : p < 8) : p * 2 ^ 44 < 2 ^ 64 := by omega
theorem bd_size {p : Nat} (h : p < 2 ^ 21) : p * 2 ^ 2 < 2 ^ 64 := by omega
theorem bd_one : (1 : Nat) < 2 ^ 64 := by decide
theorem headW_cast (s p g : Nat) : ((1 + 4 * s + 8388608 * p + 17592186044416 * g : Nat) : Int) = headW s p g := by unfold headW; omega
theorem Pack_obj (size ptrs age : Int) (w : World) (h1 : 1 ≤ size) (h2 : size ≤ 1048576) (h3 : 0 ≤ ptrs) (h4 : ptrs < size) (h5 : 0 ≤ age) (h6 : age < 8) :
    CallC Pr f_head_Pack [.agg (hdL 1 size ptrs age 0).toArray] w (fun v w' => v = .tuple #[.int .u64 (headW size ptrs age), .int .i64 0] ∧ Fr No w w') := by
  refine call_sound T_ok fun_head_Pack rfl (by kernel_rfl) rfl (Kp ?_)
  refine NewC_blk (fun p1 w1 hp1 b1 f1 s1 => ?_)
  have b1 : Blk w1 p1 t_api_Header (hdL 1 size ptrs age 0) := b1
  refine LdC_blk b1 rfl ?_
  refine LdN_blk (vs := hdL 1 size ptrs age 0) b1 rfl rfl ?_
  refine NewC_blk (fun p2 w2 hp2 b2 f2 s2 => ?_)
  have n12 : p1 ≠ p2 := by omega
  refine StN_blk b2 rfl (Nat.le_of_ble_eq_true rfl) (fun w3 b3 f3 s3 => ?_)
  have b3 : Blk w3 p2 t_api_Header (hdL 1 size ptrs age 0) := b3
  refine StC_blk b3 rfl rfl (fun w4 b4 f4 s4 => ?_)
  have b4 : Blk w4 p2 t_api_Header (hdL 0 size ptrs age 0) := b4
  refine StC_blk b4 rfl rfl (fun w5 b5 f5 s5 => ?_)
  have f25 := (f3.same f4).same f5
  have b1 := (b1.keep f2 id).keep f25 n12
  have F : Fr No w w5 := (f1.no f2).new f25 (fun _ _ e => e) (fun k e => by have e : k = p2 := e; omega)
  refine LdC_blk b1 rfl ?_
  refine Br_dt (show size ≥ 1 by omega) ?_
  refine LdC_blk b1 rfl ?_
  refine LdC_blk b1 rfl ?_
  refine Br_dt (show size ≤ 1048576 by omega) ?_
  refine LdC_blk b1 rfl ?_
  refine Br_dt (show ptrs ≥ 0 by omega) ?_
  refine LdC_blk b1 rfl ?_
  refine LdC_blk b1 rfl ?_
  refine Br_dt h4 ?_
  refine LdC_blk b1 rfl ?_
  refine Br_dt (show age ≥ 0 by omega) ?_
  refine LdC_blk b1 rfl ?_
  refine Br_dt h6 ?_
  refine LdC_blk b1 rfl ?_
  refine LdC_blk b1 rfl ?_
  refine Sd_intro (by decide) ?_
  refine LdC_blk b1 rfl ?_
  refine Sd_intro (by decide) ?_
  refine LdC_blk b1 rfl ?_
  refine Sd_intro (by decide) ?_
  refine ⟨?_, F⟩
  show Value.tuple #[.int .u64 (Vc.bits .or .u64 (Vc.bits .or .u64 (IntKind.u64.wrap 1) (Vc.bits .or .u64 (shiftV .shl .u64 (IntKind.u64.wrap ptrs) (Int.toNat 23)) (shiftV .shl .u64 (IntKind.u64.wrap age) (Int.toNat 44)))) (shiftV .shl .u64 (IntKind.u64.wrap size) (Int.toNat 2))), .int .i64 0] = _
  obtain ⟨s, rfl⟩ := Int.eq_ofNat_of_zero_le (show 0 ≤ size by omega)
  obtain ⟨p, rfl⟩ := Int.eq_ofNat_of_zero_le h3
  obtain ⟨g, rfl⟩ := Int.eq_ofNat_of_zero_le h5
  have hs : s < 2 ^ 21 := by omega
  have hp : p < 2 ^ 21 := by omega
  have hg : g < 8 := by omega
  have bp := bd_ptrs hp
  have bg := bd_age hg
  have bs := bd_size hs
  rw [show Int.toNat 23 = 23 from rfl, show Int.toNat 44 = 44 from rfl, show Int.toNat 2 = 2 from rfl, show IntKind.u64.wrap 1 = ((1 : Nat) : Int) from by decide, wrap_u64 (n := (p : Int)) (by omega) (by omega), wrap_u64 (n := (g : Int)) (by omega) (by omega), wrap_u64 (n := (s : Int)) (by omega) (by omega),
    shl_u64 (by decide) bp, shl_u64 (by decide) bg, shl_u64 (by decide) bs, or_u64 bp bg, or_u64 bd_one (Nat.or_lt_two_pow bp bg), or_u64 (Nat.or_lt_two_pow bd_one (Nat.or_lt_two_pow bp bg)) bs, or_word hs hp]
  rw [headW_cast]
/-- An object is made. -/
theorem Make_spec {b r : Nat} {acc : Int} {ws : List Int} (pos size ptrs : Int) (w : World) (h : IsArena w b r acc ws) (h0 : 0 ≤ pos) (h1 : 1 ≤ size) (h2 : size ≤ 1048576) (h3 : 0 ≤ ptrs) (h4 : ptrs < size) (hl : pos + size ≤ (ws.length : Int)) :
    CallC Pr f_parse_Make [.pointer (some ⟨b, 0, none⟩), .int .i64 pos, .int .i64 size, .int .i64 ptrs] w
      (fun v w' => v = .int .i64 0 ∧ IsArena w' b r (IntKind.i64.wrap (acc + 1)) ((zeroed ws pos.toNat size.toNat).set pos.toNat (headW size ptrs 0)) ∧ Fr (fun k => k = b ∨ k = r) w w') := by
  refine call_sound T_ok fun_parse_Make rfl (by kernel_rfl) rfl (Kp ?_)
  refine CallC_intro (Pack_obj size ptrs 0 w h1 h2 h3 h4 (by decide) (by decide)) (fun v w1 ⟨hv, f1⟩ => ?_)
  subst hv
  have hA := h.keep f1 id id
  refine CallC_intro (Zero_in pos size w1 hA h0 h1 hl) (fun v w2 ⟨hv, hA2, f2⟩ => ?_)
  subst hv
  refine CallC_intro (Store_in pos (headW size ptrs 0) w2 hA2 h0 (by rw [zeroed_len]; omega) (by unfold headW; omega)) (fun v w3 ⟨hv, hA3, f3⟩ => ?_)
  subst hv
  exact ⟨rfl, hA3, (f1.noL f2).trans f3 (fun _ _ e => .inr e) (fun _ _ e => e)⟩
end Go.Proofs.YtdhbpklmkibmbaaGreat
/- Layer 15 (mutate): stack, size. -/
namespace Go.Proofs.YtdhbpklmkibmbaaGreat
open Go.Vc

/-- The heap's own cells, its rows' addresses known. -/
theorem HeapAt.root {w : World} {z : Nat → Nat} {c : Cfg} {hb : Nat} {p : HP} {s : HS} (h : HeapAt w z c hb p s) {t : Int} (h0 : 0 ≤ t) (h1 : t < (p.bs.length : Int)) :
    ∃ g cap cur b, p.vr = .slice (some ⟨g, 0, none⟩) p.bs.length cap ∧ Blk w g t_p_roots_Stack cur ∧ cur[0 + t.toNat * 1]? = some (ptr b) ∧ p.bs[t.toNat]? = some b := by
  rcases own_cases h.rootr with ⟨_, hn, _⟩ | ⟨g, cap, cur, hv, _, hc, ht, _⟩
  · omega
  · have hb := List.getElem?_eq_getElem (show t.toNat < p.bs.length by omega)
    refine ⟨g, cap, cur, _, hv, hc, ?_, hb⟩
    have : (p.bs.map ptr)[t.toNat]? = some (ptr p.bs[t.toNat]) := by rw [List.getElem?_map, hb]; rfl
    rw [← ht, List.getElem?_take, if_pos (by omega)] at this
    rw [Nat.zero_add, Nat.mul_one]; exact this
theorem HeapAt.cells {w : World} {z : Nat → Nat} {c : Cfg} {hb : Nat} {p : HP} {s : HS} (h : HeapAt w z c hb p s) : ∃ ra rc, p.vr = .slice ra p.bs.length rc ∧
    Blk w hb t_heap_Heap (cfgL c ++ geoC c ++ [ptr p.ab, ptr p.rb, ptr p.ob, ptr p.cb, ptr p.qb, ptr p.sb, ptr p.mb, .slice ra p.bs.length rc, .slice (some ⟨p.bf, 0, none⟩) c.c3.toNat c.c3.toNat]) := by
  obtain ⟨ra, rc, hr⟩ := own_slice h.rootr
  refine ⟨ra, rc, hr, ?_⟩
  have := h.tab; unfold heapL at this; rw [hr] at this; exact this
theorem stack_spec {c : Cfg} {p : HP} {hb sh mb : Nat} {z : Nat → Nat} {s : HS} {t : Int} {m : Mu} (w : World) (h : HeapAt w z c hb p s) (hm : Blk w mb t_mutate_Mutator (mutL hb sh t m)) (h0 : 0 ≤ t) (h1 : t < (p.bs.length : Int)) :
    CallC Pr f_mutate_Mutator_stack [ptr mb] w (fun r w' => (∃ b, r = ptr b ∧ p.bs[t.toNat]? = some b) ∧ Fr No w w') := by
  obtain ⟨g, cap, cur, b, hv, hg, hc, hb'⟩ := h.root h0 h1
  obtain ⟨ra, rc, hr, hT⟩ := h.cells
  rw [hv] at hr
  injection hr with e1 e2 e3
  subst e1 e3
  refine call_sound T_ok fun_mutate_Mutator_stack rfl (by kernel_rfl) rfl (Kp ?_)
  refine AnyC_lex T_ok mixed (by kernel_rfl) (by kernel_rfl) (Kp ?_)
  refine LdS_blk hm rfl ?_
  refine LdS_blk hT rfl ?_
  refine LdS_blk hm rfl ?_
  refine Sd_intro ⟨h0, h1⟩ ?_
  refine LdS_idx hg hc ?_
  exact ⟨⟨b, rfl, hb'⟩, Fr.drew _⟩
/-- What size answers. -/
def sizeE (most a b room : Int) : Int := if a < 0 ∨ b < 0 ∨ most < a ∨ most < b ∨ a + b = 0 ∨ most ≤ a + b then 13 else if room = 0 then 15 else 0
theorem size_spec {c : Cfg} {p : HP} {hb sh mb : Nat} {z : Nat → Nat} {s : HS} {t : Int} {m : Mu} {l : List Int} (w : World) (h : HeapAt w z c hb p s) (hm : Blk w mb t_mutate_Mutator (mutL hb sh t m)) (h0 : 0 ≤ t) (h1 : t < (p.bs.length : Int)) (hl : s.refs[t.toNat]? = some l) :
    CallC Pr f_mutate_Mutator_size [ptr mb] w (fun r w' => r = .int .i64 (sizeE (min 1048576 (c.c1 * P c - P c)) m.a m.b (c.c4 - l.length)) ∧ Fr No w w') := by
  have hp := P_le h.ok
  obtain ⟨ra, rc, hr, hT⟩ := h.cells
  generalize hM : min 1048576 (c.c1 * P c - P c) = most at *
  have hmost : 64 ≤ most ∧ most ≤ 1048576 := by omega
  have hT : Blk w hb t_heap_Heap (cfgL c ++ geoL (c.c1 * P c) (P c) (Q c) c.c1 (c.c1 * P c / Q c) most ++ [ptr p.ab, ptr p.rb, ptr p.ob, ptr p.cb, ptr p.qb, ptr p.sb, ptr p.mb, .slice ra p.bs.length rc, .slice (some ⟨p.bf, 0, none⟩) c.c3.toNat c.c3.toNat]) := by
    have := hT; unfold geoC at this; rw [hM] at this; exact this
  refine call_sound T_ok fun_mutate_Mutator_size rfl (by kernel_rfl) rfl (Kp ?_)
  refine AnyC_plan T_ok mixed (planO [0,1,2,3,4,5,6,7,8,9,10,11,1012,13,1014]) (Old w.drew) (by kernel_rfl) (by kernel_rfl) (fun _ _ => rfl) (Kp ?_)
  have hm1 := hm.keep (Fr.drew w) id
  have hT1 := hT.keep (Fr.drew w) id
  refine LdS_blk hm1 rfl ?_
  refine LdS_blk hT1 rfl ?_
  refine LdSN_blk (vs := opL m.k m.a m.b m.c m.v) hm1 rfl rfl ?_
  refine ⟨?_, trivial⟩
  refine NewC_blk (fun q w1 hq h1' f1 s1 => ?_)
  refine Sd_intro f1.old ?_
  refine ⟨?_, trivial⟩
  refine StN_blk h1' rfl (Nat.le_of_ble_eq_true rfl) (fun w2 h2 f2 s2 => ?_)
  have h2 : Blk w2 q t_api_Op (opL m.k m.a m.b m.c m.v) := h2
  have f12 : Fr No w.drew w2 := f1.new f2 (fun _ _ e => e) (fun k e => by omega)
  have F2 : Fr No w w2 := (Fr.drew w).no f12
  refine Sd_intro f12.old ?_
  have bad : (m.a < 0 ∨ m.b < 0 ∨ most < m.a ∨ most < m.b ∨ m.a + m.b = 0 ∨ most ≤ m.a + m.b) → Value.int .i64 13 = .int .i64 (sizeE most m.a m.b (c.c4 - l.length)) ∧ Fr No w w2 := fun e => ⟨by unfold sizeE; rw [if_pos e], F2⟩
  refine LdC_blk h2 rfl ?_
  refine Br_dec (fun e1 => bad (.inl e1)) (fun e1 => ?_)
  have e1 : ¬ m.a < 0 := e1
  refine LdC_blk h2 rfl ?_
  refine Br_dec (fun e2 => bad (.inr (.inl e2))) (fun e2 => ?_)
  have e2 : ¬ m.b < 0 := e2
  refine LdC_blk h2 rfl ?_
  refine Br_dec (fun e3 => bad (.inr (.inr (.inl e3)))) (fun e3 => ?_)
  have e3 : ¬ m.a > most := e3
  refine LdC_blk h2 rfl ?_
  refine Br_dec (fun e4 => bad (.inr (.inr (.inr (.inl e4))))) (fun e4 => ?_)
  have e4 : ¬ m.b > most := e4
  have ew : IntKind.i64.wrap (m.a + m.b) = m.a + m.b := wrap_i64 (by omega) (by omega)
  refine LdC_blk h2 rfl ?_
  refine LdC_blk h2 rfl ?_
  refine Br_dec (fun e5 => bad (.inr (.inr (.inr (.inr (.inl (ew.symm.trans e5))))))) (fun e5 => ?_)
  have e5 : ¬ IntKind.i64.wrap (m.a + m.b) = 0 := e5
  rw [ew] at e5
  refine LdC_blk h2 rfl ?_
  refine LdC_blk h2 rfl ?_
  refine Br_dec (fun e6 => bad (.inr (.inr (.inr (.inr (.inr (by have e6 : IntKind.i64.wrap (m.a + m.b) ≥ most := e6; rw [ew] at e6; exact e6))))))) (fun e6 => ?_)
  have e6 : ¬ IntKind.i64.wrap (m.a + m.b) ≥ most := e6
  rw [ew] at e6
  have good : ¬ (m.a < 0 ∨ m.b < 0 ∨ most < m.a ∨ most < m.b ∨ m.a + m.b = 0 ∨ most ≤ m.a + m.b) := by omega
  have m2 : Mv z z (fun _ => False) w w2 := Mv.of F2
  have H2 := h.mv m2 (fun _ _ => id)
  refine CallC_intro (stack_spec w2 H2 (hm.keep F2 id) h0 h1) (fun v w3 ⟨⟨b, hv, hb'⟩, f3⟩ => ?_)
  subst hv
  have H3 := H2.mv (Mv.of (S := fun _ => False) f3) (fun _ _ => id)
  obtain ⟨sv, hS, _, _⟩ := H3.stacks _ b l hb' hl
  refine CallC_intro (roots_Room_spec w3 hS) (fun v w4 ⟨hv, f4⟩ => ?_)
  subst hv
  have F4 := (F2.no f3).no f4
  refine Br_dec (fun e7 => ?_) (fun e7 => ?_)
  · have e7 : c.c4 - (l.length : Int) = 0 := e7
    have r : Value.int .i64 15 = .int .i64 (sizeE most m.a m.b (c.c4 - l.length)) := by unfold sizeE; rw [if_neg good, if_pos e7]
    exact ⟨r, F4⟩
  · have e7 : ¬ c.c4 - (l.length : Int) = 0 := e7
    have r : Value.int .i64 0 = .int .i64 (sizeE most m.a m.b (c.c4 - l.length)) := by unfold sizeE; rw [if_neg good, if_neg e7]
    exact ⟨r, F4⟩
end Go.Proofs.YtdhbpklmkibmbaaGreat
