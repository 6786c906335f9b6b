/- Layer 14 (heap): New of what may not be; layer 13's answer: New. -/
import Derived.Test.YthmkimnpdnmahaaHeap2
namespace Go.Proofs.Ythmkimnpdnmahaa
open Go.Vc

theorem heap_New_bad (c : Cfg) (w : World) (hV : ¬ Valid c) : CallC Pr f_heap_New [cfgV c] w (fun v w' => v = .tuple #[.pointer none, .int .i64 20] ∧ Fr No w w') := by
  refine call_sound T_ok fun_heap_New rfl (by kernel_rfl) rfl (Kp ?_)
  refine NewC_blk (fun p1 w1 hp1 h1 f1 s1 => ?_)
  have h1 : Blk w1 p1 t_api_Config (cfgL c) := h1
  refine LdN_blk (vs := cfgL c) h1 rfl rfl ?_
  refine CallC_intro (geom_New_spec c w1) (fun v w2 ⟨hv, f2⟩ => ?_)
  have hv : v = .tuple #[.agg (geoL 0 0 0 0 0 0).toArray, .int .i64 20] := by
    rcases hv with ⟨h, _⟩ | ⟨_, hv⟩
    · exact absurd h hV
    · exact hv
  subst hv
  refine NewC_blk (fun g w3 hg h3 f3 s3 => ?_)
  refine StN_blk h3 rfl (Nat.le_refl 6) (fun w4 h4 f4 s4 => ?_)
  have f34 : Fr No w2 w4 := f3.new f4 (fun _ _ e => e) (fun k e => by omega)
  exact ⟨rfl, (f1.no f2).no f34⟩

/-- A stack of the abstract heap. -/
structure IsRoots (w : World) (b : Nat) (v : Value) (bound : Int) (l : List Int) : Prop where
  tab : Blk w b t_gleanerref12_Stack [.int .i64 bound, v]
  own : w.ownsRow 0 t_api_Ref 1 v l.length (u64i l)
  b0 : 1 ≤ bound ∧ bound ≤ 64
  n0 : (l.length : Int) ≤ bound
def RootsIn (w : World) (z : Nat → Nat) (i b : Nat) (bound : Int) (l : List Int) : Prop := ∃ v, IsRoots w b v bound l ∧ z b = i ∧ ∀ k, v.ownBlock = some k → z k = i
section
variable {w w' : World} {b : Nat} {v : Value} {bound : Int} {l : List Int}
theorem IsRoots.keep {F : Nat → Prop} (h : IsRoots w b v bound l) (f : Fr F w w') (hb : ¬ F b) (hv : ∀ k, v.ownBlock = some k → ¬ F k) : IsRoots w' b v bound l :=
  ⟨h.tab.keep f hb, own_keepV h.own f hv, h.b0, h.n0⟩
theorem IsRoots.ne (h : IsRoots w b v bound l) : v.ownBlock ≠ some b := by
  intro e
  obtain ⟨cur, hb, _⟩ := own_blk h.own b e
  have := (h.tab.inj hb).2
  cases this
theorem RootsIn.mv {z z' : Nat → Nat} {S : Nat → Prop} {i : Nat} (h : RootsIn w z i b bound l) (m : Mv z z' S w w') (hn : ¬ S i) : RootsIn w' z' i b bound l := by
  obtain ⟨v, h, hb, hv⟩ := h
  exact ⟨v, h.keep m.fr (by rw [hb]; exact hn) (fun k hk => by rw [hv k hk]; exact hn), (m.zs _ h.tab.lt).trans hb, (own_mv h.own hv m hn).2⟩
end
theorem ref12_New_spec (n : Int) (w : World) (h0 : 1 ≤ n) (h1 : n ≤ 64) : CallC Pr f_gleanerref12_New [.int .i64 n] w
    (fun v w' => ∃ b, v = .tuple #[.pointer (some ⟨b, 0, none⟩), .int .i64 0] ∧ IsRoots w' b (.slice none 0 0) n [] ∧ Fr No w w' ∧ b = w.heap.size ∧ w'.heap.size = b + 1) := by
  refine call_sound T_ok fun_gleanerref12_New rfl (by kernel_rfl) rfl (Kp ?_)
  refine Br_df (show ¬ n < 1 by omega) ?_
  refine Br_df (show ¬ n > 64 by omega) ?_
  refine NewC_blk (fun b w3 hb h3 f3 s3 => ?_)
  exact ⟨b, rfl, ⟨h3, World.ownsRow_nil _ _ _ _, ⟨h0, h1⟩, (show (0 : Int) ≤ n by omega)⟩, f3, hb, s3⟩

/-- Where the abstract heap's parts are. -/
structure GP where
  dr : Nat
  vo : Value
  vs : Value
  bs : List Nat
/-- The abstract heap: how large an object may be, the stacks' bound, what each thread did, the stacks. Objects: their references, their data. -/
structure GS where
  max : Int
  bound : Int
  done : List Int
  stacks : List (List Int)
  objs : List (List Int × List Int)
def objL (l : List (Value × Value)) : List Value := l.flatMap fun x => [x.1, x.2]
structure GraphAt (w : World) (z : Nat → Nat) (gb : Nat) (p : GP) (s : GS) : Prop where
  tab : Blk w gb t_gleanerref13_Graph [.int .i64 s.max, p.vo, p.vs, .slice (some ⟨p.dr, 0, none⟩) s.done.length s.done.length]
  tabz : z gb = 301
  done : Blk w p.dr t_int (ints s.done)
  donez : z p.dr = 302
  row : w.ownsRow 0 t_p_gleanerref12_Stack 1 p.vs p.bs.length (p.bs.map ptr)
  rowz : ∀ k, p.vs.ownBlock = some k → z k = 303
  lens : s.stacks.length = p.bs.length ∧ s.done.length = p.bs.length
  stacks : ∀ (t b : Nat) (l : List Int), p.bs[t]? = some b → s.stacks[t]? = some l → RootsIn w z (400 + t) b s.bound l
  objs : ∃ ov : List (Value × Value), ov.length = s.objs.length ∧ w.ownsRow 0 t_gleanerref13_Object 2 p.vo ov.length (objL ov) ∧ (∀ k, p.vo.ownBlock = some k → z k = 304) ∧
    ∀ (j : Nat) (x : Value × Value) (o : List Int × List Int), ov[j]? = some x → s.objs[j]? = some o → (w.ownsRow 0 t_api_Ref 1 x.1 o.1.length (u64i o.1) ∧ ∀ k, x.1.ownBlock = some k → z k = 1000 + 2 * j) ∧
      (w.ownsRow 0 t_uint64 1 x.2 o.2.length (u64i o.2) ∧ ∀ k, x.2.ownBlock = some k → z k = 1001 + 2 * j)
theorem own_mv2 {z z' : Nat → Nat} {S : Nat → Prop} {w w' : World} {i e n m : Nat} {v : Value} {xs : List Value} (h : w.ownsRow 0 e m v n xs) (hz : ∀ k, v.ownBlock = some k → z k = i) (mm : Mv z z' S w w') (hn : ¬ S i) : w'.ownsRow 0 e m v n xs ∧ ∀ k, v.ownBlock = some k → z' k = i :=
  ⟨own_keepV h mm.fr (fun k hk => by rw [hz k hk]; exact hn), fun k hk => (mm.zs k (by obtain ⟨cur, hb, _⟩ := own_blk h k hk; exact hb.lt)).trans (hz k hk)⟩
theorem GraphAt.mv {w w' : World} {z z' : Nat → Nat} {S : Nat → Prop} {gb : Nat} {p : GP} {s : GS} (h : GraphAt w z gb p s) (m : Mv z z' S w w') (hn : ∀ i, (301 ≤ i ∧ i ≤ 304) ∨ (400 ≤ i ∧ i < 400 + p.bs.length) ∨ 1000 ≤ i → ¬ S i) : GraphAt w' z' gb p s := by
  have h1 := h.tab.mv h.tabz m (hn _ (by omega))
  have h2 := h.done.mv h.donez m (hn _ (by omega))
  have h3 := own_mv h.row h.rowz m (hn _ (by omega))
  obtain ⟨ov, o1, o2, o3, o4⟩ := h.objs
  have h4 := own_mv2 o2 o3 m (hn _ (by omega))
  exact ⟨h1.1, h1.2, h2.1, h2.2, h3.1, h3.2, h.lens, fun t b l hb hl => (h.stacks t b l hb hl).mv m (hn _ (by have := (List.getElem?_eq_some_iff.1 hb).1; omega)),
    ov, o1, h4.1, h4.2, fun j x o hx ho => ⟨own_mv (o4 j x o hx ho).1.1 (o4 j x o hx ho).1.2 m (hn _ (by omega)), own_mv (o4 j x o hx ho).2.1 (o4 j x o hx ho).2.2 m (hn _ (by omega))⟩⟩
end Go.Proofs.Ythmkimnpdnmahaa
