/- The law's world: Over. -/
import Derived.Test.YthmkimnpdnmahaaMut2
import Derived.Test.YthmkimnpdnmahaaHeap4
import Derived.Test.YthmkimnpdnmahaaVcI
namespace Go.Proofs.Ythmkimnpdnmahaa
open Go.Vc

structure WP where
  sh : Nat
  orr : Nat
  mv : Value
  opr : Nat
  nxr : Nat
  dv : Value
  ms : List Nat
structure WS where
  mus : List Mu
  olds : List (List Int)
  marking : Bool
  ops : List (Option Addr × Nat × Nat)
  next : List Int
  dirty : List Int
  wants : Int
  stay : Bool
def opSl (q : Option Addr × Nat × Nat) : Value := .slice q.1 q.2.1 q.2.2
def worldL (hb gb : Nat) (p : WP) (n : Nat) (wants : Int) (stay : Bool) : List Value := [ptr hb, ptr p.sh, p.mv, .slice (some ⟨p.opr, 0, none⟩) n n, .slice (some ⟨p.nxr, 0, none⟩) n n, ptr gb, p.dv, .int .i64 wants, .bool stay]
structure WorldAt (w : World) (z : Nat → Nat) (hb gb wb : Nat) (p : WP) (s : WS) : Prop where
  tab : Blk w wb t_gleanerlaw15_World (worldL hb gb p p.ms.length s.wants s.stay)
  tabz : z wb = 310
  shared : Blk w p.sh t_mutate_Shared [.bool s.marking, .slice (some ⟨p.orr, 0, none⟩) p.ms.length p.ms.length]
  sharedz : z p.sh = 311
  old : ∃ vs : List Value, vs.length = p.ms.length ∧ Blk w p.orr t_s_api_Ref vs ∧ ∀ (t : Nat) (v : Value) (l : List Int), vs[t]? = some v → s.olds[t]? = some l → w.ownsRow 0 t_api_Ref 1 v l.length (u64i l) ∧ ∀ k, v.ownBlock = some k → z k = 600 + t
  oldz : z p.orr = 312
  oldl : s.olds.length = p.ms.length
  mrow : w.ownsRow 0 t_p_mutate_Mutator 1 p.mv p.ms.length (p.ms.map ptr)
  mrowz : ∀ k, p.mv.ownBlock = some k → z k = 313
  ops : Blk w p.opr t_s_api_Op (s.ops.map opSl)
  opsz : z p.opr = 314
  opsl : s.ops.length = p.ms.length
  next : Blk w p.nxr t_int (ints s.next)
  nextz : z p.nxr = 315
  nextl : s.next.length = p.ms.length
  dirty : w.ownsRow 0 t_int 1 p.dv s.dirty.length (ints s.dirty)
  dirtyz : ∀ k, p.dv.ownBlock = some k → z k = 316
  musl : s.mus.length = p.ms.length
  mus : ∀ (t b : Nat) (m : Mu), p.ms[t]? = some b → s.mus[t]? = some m → Blk w b t_mutate_Mutator (mutL hb p.sh t m) ∧ z b = 500 + t
theorem WorldAt.mv {w w' : World} {z z' : Nat → Nat} {S : Nat → Prop} {hb gb wb : Nat} {p : WP} {s : WS} (h : WorldAt w z hb gb wb p s) (m : Mv z z' S w w') (hn : ∀ i, (310 ≤ i ∧ i ≤ 316) ∨ (500 ≤ i ∧ i < 500 + p.ms.length) ∨ (600 ≤ i ∧ i < 600 + p.ms.length) → ¬ S i) : WorldAt w' z' hb gb wb p s := by
  have h1 := h.tab.mv h.tabz m (hn _ (by omega))
  have h2 := h.shared.mv h.sharedz m (hn _ (by omega))
  obtain ⟨vs, l3, b3, o3⟩ := h.old
  have h3 := b3.mv h.oldz m (hn _ (by omega))
  have h4 := own_mv h.mrow h.mrowz m (hn _ (by omega))
  have h5 := h.ops.mv h.opsz m (hn _ (by omega))
  have h6 := h.next.mv h.nextz m (hn _ (by omega))
  have h7 := own_mv h.dirty h.dirtyz m (hn _ (by omega))
  exact ⟨h1.1, h1.2, h2.1, h2.2, ⟨vs, l3, h3.1, fun t v l hv hl => own_mv (o3 t v l hv hl).1 (o3 t v l hv hl).2 m (hn _ (by have := (List.getElem?_eq_some_iff.1 hv).1; omega))⟩, h3.2, h.oldl, h4.1, h4.2, h5.1, h5.2, h.opsl, h6.1, h6.2, h.nextl, h7.1, h7.2, h.musl,
    fun t b q hb hq => (h.mus t b q hb hq).1.mv (h.mus t b q hb hq).2 m (hn _ (by have := (List.getElem?_eq_some_iff.1 hb).1; omega))⟩
/-- The rows of operations that came in. -/
def OpsArg (w : World) (a : Option Addr) (L : List (Option Addr × Nat × Nat)) : Prop :=
  ∀ (t : Nat) (q : Option Addr × Nat × Nat), L[t]? = some q → q.2.1 ≤ q.2.2 ∧ ∃ x, a = some x ∧ w.cell? (x.add t) = some (opSl q)
theorem OpsArg.keep {w w' : World} {a : Option Addr} {L : List (Option Addr × Nat × Nat)} (h : OpsArg w a L) (f : Fr No w w') : OpsArg w' a L := fun t q hq => by
  obtain ⟨h1, x, h2, h3⟩ := h t q hq
  refine ⟨h1, x, h2, ?_⟩
  have hb := World.block_lt_of_cell? w (x.add t) h3
  unfold World.cell? at h3 ⊢
  rw [f.blk _ hb (fun e => e)]; exact h3
def cutOps (L : List (Option Addr × Nat × Nat)) (n k : Nat) : List (Option Addr × Nat × Nat) := (List.range n).map fun t => if t < k then (match L[t]? with | some q => (q.1, min q.2.1 60, q.2.2) | none => (none, 0, 0)) else (none, 0, 0)
theorem cutOps_len (L : List (Option Addr × Nat × Nat)) (n k : Nat) : (cutOps L n k).length = n := by simp [cutOps]
theorem cutOps_get (L : List (Option Addr × Nat × Nat)) (n k t : Nat) (ht : t < n) : (cutOps L n k)[t]? = some (if t < k then (match L[t]? with | some q => (q.1, min q.2.1 60, q.2.2) | none => (none, 0, 0)) else (none, 0, 0)) := by
  unfold cutOps; rw [List.getElem?_map, List.getElem?_range ht]; rfl
theorem cutOps_some {L : List (Option Addr × Nat × Nat)} {n i : Nat} {q : Option Addr × Nat × Nat} (hi : i < n) (hq : L[i]? = some q) : (cutOps L n i).set i (q.1, min q.2.1 60, q.2.2) = cutOps L n (i + 1) := by
  apply List.ext_getElem?
  intro t
  rcases Nat.lt_or_ge t n with ht | ht
  · rw [cutOps_get L n (i + 1) t ht, List.getElem?_set]
    by_cases e : i = t
    · subst e
      rw [if_pos rfl, if_pos (by rw [cutOps_len]; exact hi), if_pos (by omega), hq]
    · rw [if_neg e, cutOps_get L n i t ht]
      by_cases e2 : t < i
      · rw [if_pos e2, if_pos (by omega)]
      · rw [if_neg e2, if_neg (by omega)]
  · rw [List.getElem?_eq_none (by rw [List.length_set, cutOps_len]; exact ht), List.getElem?_eq_none (by rw [cutOps_len]; exact ht)]
theorem cutOps_none {L : List (Option Addr × Nat × Nat)} {n i : Nat} (hq : L[i]? = none) : cutOps L n (i + 1) = cutOps L n i := by
  apply List.ext_getElem?
  intro t
  rcases Nat.lt_or_ge t n with ht | ht
  · rw [cutOps_get L n (i + 1) t ht, cutOps_get L n i t ht]
    by_cases e : i = t
    · subst e
      rw [if_pos (by omega), if_neg (by omega), hq]
    · by_cases e2 : t < i
      · rw [if_pos e2, if_pos (by omega)]
      · rw [if_neg e2, if_neg (by omega)]
  · rw [List.getElem?_eq_none (by rw [cutOps_len]; exact ht), List.getElem?_eq_none (by rw [cutOps_len]; exact ht)]
def worldV (hb gb sh : Nat) (mv : Value) (opr nxr n : Nat) : List Value := [ptr hb, ptr sh, mv, .slice (some ⟨opr, 0, none⟩) n n, .slice (some ⟨nxr, 0, none⟩) n n, ptr gb, .slice none 0 0, .int .i64 0, .bool false]
def OverJ (w : World) (hb gb n : Nat) (x : Nat × Nat × Nat × Nat × Nat) (w5 : World) : Prop :=
  Blk w5 x.1 t_gleanerlaw15_World (worldV hb gb x.2.1 (.slice none 0 0) x.2.2.2.1 x.2.2.2.2 n) ∧ Blk w5 x.2.1 t_mutate_Shared [.bool false, .slice (some ⟨x.2.2.1, 0, none⟩) n n] ∧ Blk w5 x.2.2.1 t_s_api_Ref (List.replicate n (.slice none 0 0)) ∧
      Blk w5 x.2.2.2.1 t_s_api_Op (List.replicate n (.slice none 0 0)) ∧ Blk w5 x.2.2.2.2 t_int (List.replicate n (.int .i64 0)) ∧ Fr No w w5 ∧ w.heap.size ≤ x.1 ∧ w.heap.size ≤ x.2.1 ∧ w.heap.size ≤ x.2.2.1 ∧ w.heap.size ≤ x.2.2.2.1 ∧ w.heap.size ≤ x.2.2.2.2 ∧
      (x.1 ≠ x.2.1 ∧ x.1 ≠ x.2.2.1 ∧ x.1 ≠ x.2.2.2.1 ∧ x.1 ≠ x.2.2.2.2 ∧ x.2.1 ≠ x.2.2.1 ∧ x.2.1 ≠ x.2.2.2.1 ∧ x.2.1 ≠ x.2.2.2.2 ∧ x.2.2.1 ≠ x.2.2.2.1 ∧ x.2.2.1 ≠ x.2.2.2.2 ∧ x.2.2.2.1 ≠ x.2.2.2.2)
def overP : Plan := (.take 0 (.take 1 (.take 5 (.take 7 (.take 9 (.alt 2 (.take 3 (.alt 4 (.alt 6 (.alt 8 (.take 10 (.alt 11 (.take 12 .over) .stop)) .stop) (.alt 8 (.alt 6 (.take 10 (.alt 11 (.take 12 .over) .stop)) .stop) .stop)) (.alt 6 (.alt 4 (.alt 8 (.take 10 (.alt 11 (.take 12 .over) .stop)) .stop) (.alt 8 (.alt 4 (.take 10 (.alt 11 (.take 12 .over) .stop)) .stop) .stop)) (.alt 8 (.alt 4 (.alt 6 (.take 10 (.alt 11 (.take 12 .over) .stop)) .stop) (.alt 6 (.alt 4 (.take 10 (.alt 11 (.take 12 .over) .stop)) .stop) .stop)) .stop)))) (.alt 6 (.alt 2 (.take 3 (.alt 4 (.alt 8 (.take 10 (.alt 11 (.take 12 .over) .stop)) .stop) (.alt 8 (.alt 4 (.take 10 (.alt 11 (.take 12 .over) .stop)) .stop) .stop))) (.alt 8 (.alt 2 (.take 3 (.alt 4 (.take 10 (.alt 11 (.take 12 .over) .stop)) .stop)) .stop) .stop)) (.alt 8 (.alt 2 (.take 3 (.alt 4 (.alt 6 (.take 10 (.alt 11 (.take 12 .over) .stop)) .stop) (.alt 6 (.alt 4 (.take 10 (.alt 11 (.take 12 .over) .stop)) .stop) .stop))) (.alt 6 (.alt 2 (.take 3 (.alt 4 (.take 10 (.alt 11 (.take 12 .over) .stop)) .stop)) .stop) .stop)) .stop))))))))
set_option maxHeartbeats 2000000 in
theorem Over_spec {c : Cfg} {hb gb : Nat} {p : HP} {s : HS} {z : Nat → Nat} {oa : Option Addr} {oc : Nat} {L : List (Option Addr × Nat × Nat)} (w : World) (h : HeapAt w z c hb p s) (hz : ∀ k, z k < 500) (hz' : ∀ k, k < w.heap.size → z k < 310 ∨ 400 ≤ z k) (hL : OpsArg w oa L) :
    CallC Pr f_gleanerlaw15_Over [ptr hb, ptr gb, .slice oa L.length oc] w (fun r w' => ∃ wb wp z', r = .tuple #[ptr wb, .bool true] ∧
      WorldAt w' z' hb gb wb wp ⟨List.replicate p.bs.length newM, List.replicate p.bs.length [], false, cutOps L p.bs.length p.bs.length, List.replicate p.bs.length 0, [], 0, false⟩ ∧ wp.ms.length = p.bs.length ∧ Mv z z' (fun _ => False) w w' ∧ ∀ k, z' k < 600) := by
  obtain ⟨ra, rc, hr⟩ := own_slice h.rootr
  have hT : Blk w hb t_heap_Heap (cfgL c ++ geoC c ++ [ptr p.ab, ptr p.rb, ptr p.ob, ptr p.cb, ptr p.qb, ptr p.sb, ptr p.mb, .slice ra p.bs.length rc, .slice (some ⟨p.bf, 0, none⟩) c.c3.toNat c.c3.toNat]) := by
    have := h.tab; unfold heapL at this; rw [hr] at this; exact this
  have hb64 : p.bs.length ≤ 64 ∧ 1 ≤ p.bs.length := by
    have h1 : 1 ≤ c.c3 ∧ c.c3 ≤ 64 := h.ok.ls 1 _ rfl
    have := h.bsl
    omega
  generalize hn : p.bs.length = n at *
  refine call_sound T_ok fun_gleanerlaw15_Over rfl (by kernel_rfl) rfl (Kp ?_)
  refine LdC_blk hT rfl ?_
  refine AnyC_mid (α := Nat × Nat × Nat × Nat × Nat) (fun x => [(0, ptr hb), (1, ptr gb), (2, .slice oa L.length oc), (8, .int .i64 n), (9, ptr x.1)])
    (OverJ w hb gb n) ?_ ?_
  · refine AnyC_plan T_ok mixed overP (Old w.drew) (by kernel_rfl) (by kernel_rfl) (fun _ _ => rfl) (Kp ?_)
    have sd : w.drew.heap.size = w.heap.size := rfl
    have fin : ∀ {σ : Env} (wb sh orr opr nxr : Nat) (w5 : World), Fr No w.drew w5 → Blk w5 wb t_gleanerlaw15_World (worldV hb gb sh (.slice none 0 0) opr nxr n) → Blk w5 sh t_mutate_Shared [.bool false, .slice (some ⟨orr, 0, none⟩) n n] →
        Blk w5 orr t_s_api_Ref (List.replicate n (.slice none 0 0)) → Blk w5 opr t_s_api_Op (List.replicate n (.slice none 0 0)) → Blk w5 nxr t_int (List.replicate n (.int .i64 0)) →
        w.heap.size ≤ wb → w.heap.size ≤ sh → w.heap.size ≤ orr → w.heap.size ≤ opr → w.heap.size ≤ nxr →
        (wb ≠ sh ∧ wb ≠ orr ∧ wb ≠ opr ∧ wb ≠ nxr ∧ sh ≠ orr ∧ sh ≠ opr ∧ sh ≠ nxr ∧ orr ≠ opr ∧ orr ≠ nxr ∧ opr ≠ nxr) → Sub [(0, ptr hb), (1, ptr gb), (2, .slice oa L.length oc), (8, .int .i64 n), (9, ptr wb)] σ →
        ∃ x : Nat × Nat × Nat × Nat × Nat, Sub [(0, ptr hb), (1, ptr gb), (2, .slice oa L.length oc), (8, .int .i64 n), (9, ptr x.1)] σ ∧ OverJ w hb gb n x w5 :=
      fun wb sh orr opr nxr w5 F a b c d e g1 g2 g3 g4 g5 ne hs => ⟨(wb, sh, orr, opr, nxr), hs, a, b, c, d, e, (Fr.drew w).no F, g1, g2, g3, g4, g5, ne⟩
    refine ⟨?_, ?_⟩
    · refine MkC T_ok (z := .slice none 0 0) rfl rfl rfl rfl (n := (n : Int)) (by omega) (by omega) (show (24 : Int) * (n : Int) ≤ _ by omega) (fun orr v2 e2 h2 g2 s2 => ?_)
      refine Sd_intro g2.old ?_
      refine ⟨?_, ?_⟩
      · refine NewC_blk (fun sh v4 e4 h4 g4 s4 => ?_)
        refine Sd_intro (g2.no g4).old ?_
        refine ⟨?_, ?_⟩
        · refine MkC T_ok (z := .slice none 0 0) rfl rfl rfl rfl (n := (n : Int)) (by omega) (by omega) (show (24 : Int) * (n : Int) ≤ _ by omega) (fun opr v6 e6 h6 g6 s6 => ?_)
          refine Sd_intro ((g2.no g4).no g6).old ?_
          refine ⟨?_, ?_⟩
          · refine MkC T_ok (z := .int .i64 0) rfl rfl rfl rfl (n := (n : Int)) (by omega) (by omega) (show (8 : Int) * (n : Int) ≤ _ by omega) (fun nxr v8 e8 h8 g8 s8 => ?_)
            refine Sd_intro (((g2.no g4).no g6).no g8).old ?_
            refine ⟨?_, trivial⟩
            refine NewC_blk (fun wb v11 e11 h11 g11 s11 => ?_)
            have FF := ((((g2.no g4).no g6).no g8).no g11)
            refine Sd_intro FF.old ?_
            exact fin wb sh orr opr nxr v11 FF h11 (h4.keep ((g6.no g8).no g11) id) (h2.keep (((g4.no g6).no g8).no g11) id) (h6.keep (g8.no g11) id) (h8.keep g11 id) (by omega) (by omega) (by omega) (by omega) (by omega) ⟨by omega, by omega, by omega, by omega, by omega, by omega, by omega, by omega, by omega, by omega⟩ ⟨rfl, rfl, rfl, rfl, rfl, trivial⟩
          exact trivial
        refine ⟨?_, ?_⟩
        · refine MkC T_ok (z := .int .i64 0) rfl rfl rfl rfl (n := (n : Int)) (by omega) (by omega) (show (8 : Int) * (n : Int) ≤ _ by omega) (fun nxr v8 e8 h8 g8 s8 => ?_)
          refine Sd_intro ((g2.no g4).no g8).old ?_
          refine ⟨?_, ?_⟩
          · refine MkC T_ok (z := .slice none 0 0) rfl rfl rfl rfl (n := (n : Int)) (by omega) (by omega) (show (24 : Int) * (n : Int) ≤ _ by omega) (fun opr v6 e6 h6 g6 s6 => ?_)
            refine Sd_intro (((g2.no g4).no g8).no g6).old ?_
            refine ⟨?_, trivial⟩
            refine NewC_blk (fun wb v11 e11 h11 g11 s11 => ?_)
            have FF := ((((g2.no g4).no g8).no g6).no g11)
            refine Sd_intro FF.old ?_
            exact fin wb sh orr opr nxr v11 FF h11 (h4.keep ((g8.no g6).no g11) id) (h2.keep (((g4.no g8).no g6).no g11) id) (h6.keep g11 id) (h8.keep (g6.no g11) id) (by omega) (by omega) (by omega) (by omega) (by omega) ⟨by omega, by omega, by omega, by omega, by omega, by omega, by omega, by omega, by omega, by omega⟩ ⟨rfl, rfl, rfl, rfl, rfl, trivial⟩
          exact trivial
        exact trivial
      refine ⟨?_, ?_⟩
      · refine MkC T_ok (z := .slice none 0 0) rfl rfl rfl rfl (n := (n : Int)) (by omega) (by omega) (show (24 : Int) * (n : Int) ≤ _ by omega) (fun opr v6 e6 h6 g6 s6 => ?_)
        refine Sd_intro (g2.no g6).old ?_
        refine ⟨?_, ?_⟩
        · refine NewC_blk (fun sh v4 e4 h4 g4 s4 => ?_)
          refine Sd_intro ((g2.no g6).no g4).old ?_
          refine ⟨?_, ?_⟩
          · refine MkC T_ok (z := .int .i64 0) rfl rfl rfl rfl (n := (n : Int)) (by omega) (by omega) (show (8 : Int) * (n : Int) ≤ _ by omega) (fun nxr v8 e8 h8 g8 s8 => ?_)
            refine Sd_intro (((g2.no g6).no g4).no g8).old ?_
            refine ⟨?_, trivial⟩
            refine NewC_blk (fun wb v11 e11 h11 g11 s11 => ?_)
            have FF := ((((g2.no g6).no g4).no g8).no g11)
            refine Sd_intro FF.old ?_
            exact fin wb sh orr opr nxr v11 FF h11 (h4.keep (g8.no g11) id) (h2.keep (((g6.no g4).no g8).no g11) id) (h6.keep ((g4.no g8).no g11) id) (h8.keep g11 id) (by omega) (by omega) (by omega) (by omega) (by omega) ⟨by omega, by omega, by omega, by omega, by omega, by omega, by omega, by omega, by omega, by omega⟩ ⟨rfl, rfl, rfl, rfl, rfl, trivial⟩
          exact trivial
        refine ⟨?_, ?_⟩
        · refine MkC T_ok (z := .int .i64 0) rfl rfl rfl rfl (n := (n : Int)) (by omega) (by omega) (show (8 : Int) * (n : Int) ≤ _ by omega) (fun nxr v8 e8 h8 g8 s8 => ?_)
          refine Sd_intro ((g2.no g6).no g8).old ?_
          refine ⟨?_, ?_⟩
          · refine NewC_blk (fun sh v4 e4 h4 g4 s4 => ?_)
            refine Sd_intro (((g2.no g6).no g8).no g4).old ?_
            refine ⟨?_, trivial⟩
            refine NewC_blk (fun wb v11 e11 h11 g11 s11 => ?_)
            have FF := ((((g2.no g6).no g8).no g4).no g11)
            refine Sd_intro FF.old ?_
            exact fin wb sh orr opr nxr v11 FF h11 (h4.keep g11 id) (h2.keep (((g6.no g8).no g4).no g11) id) (h6.keep ((g8.no g4).no g11) id) (h8.keep (g4.no g11) id) (by omega) (by omega) (by omega) (by omega) (by omega) ⟨by omega, by omega, by omega, by omega, by omega, by omega, by omega, by omega, by omega, by omega⟩ ⟨rfl, rfl, rfl, rfl, rfl, trivial⟩
          exact trivial
        exact trivial
      refine ⟨?_, ?_⟩
      · refine MkC T_ok (z := .int .i64 0) rfl rfl rfl rfl (n := (n : Int)) (by omega) (by omega) (show (8 : Int) * (n : Int) ≤ _ by omega) (fun nxr v8 e8 h8 g8 s8 => ?_)
        refine Sd_intro (g2.no g8).old ?_
        refine ⟨?_, ?_⟩
        · refine NewC_blk (fun sh v4 e4 h4 g4 s4 => ?_)
          refine Sd_intro ((g2.no g8).no g4).old ?_
          refine ⟨?_, ?_⟩
          · refine MkC T_ok (z := .slice none 0 0) rfl rfl rfl rfl (n := (n : Int)) (by omega) (by omega) (show (24 : Int) * (n : Int) ≤ _ by omega) (fun opr v6 e6 h6 g6 s6 => ?_)
            refine Sd_intro (((g2.no g8).no g4).no g6).old ?_
            refine ⟨?_, trivial⟩
            refine NewC_blk (fun wb v11 e11 h11 g11 s11 => ?_)
            have FF := ((((g2.no g8).no g4).no g6).no g11)
            refine Sd_intro FF.old ?_
            exact fin wb sh orr opr nxr v11 FF h11 (h4.keep (g6.no g11) id) (h2.keep (((g8.no g4).no g6).no g11) id) (h6.keep g11 id) (h8.keep ((g4.no g6).no g11) id) (by omega) (by omega) (by omega) (by omega) (by omega) ⟨by omega, by omega, by omega, by omega, by omega, by omega, by omega, by omega, by omega, by omega⟩ ⟨rfl, rfl, rfl, rfl, rfl, trivial⟩
          exact trivial
        refine ⟨?_, ?_⟩
        · refine MkC T_ok (z := .slice none 0 0) rfl rfl rfl rfl (n := (n : Int)) (by omega) (by omega) (show (24 : Int) * (n : Int) ≤ _ by omega) (fun opr v6 e6 h6 g6 s6 => ?_)
          refine Sd_intro ((g2.no g8).no g6).old ?_
          refine ⟨?_, ?_⟩
          · refine NewC_blk (fun sh v4 e4 h4 g4 s4 => ?_)
            refine Sd_intro (((g2.no g8).no g6).no g4).old ?_
            refine ⟨?_, trivial⟩
            refine NewC_blk (fun wb v11 e11 h11 g11 s11 => ?_)
            have FF := ((((g2.no g8).no g6).no g4).no g11)
            refine Sd_intro FF.old ?_
            exact fin wb sh orr opr nxr v11 FF h11 (h4.keep g11 id) (h2.keep (((g8.no g6).no g4).no g11) id) (h6.keep (g4.no g11) id) (h8.keep ((g6.no g4).no g11) id) (by omega) (by omega) (by omega) (by omega) (by omega) ⟨by omega, by omega, by omega, by omega, by omega, by omega, by omega, by omega, by omega, by omega⟩ ⟨rfl, rfl, rfl, rfl, rfl, trivial⟩
          exact trivial
        exact trivial
      exact trivial
    refine ⟨?_, ?_⟩
    · refine MkC T_ok (z := .slice none 0 0) rfl rfl rfl rfl (n := (n : Int)) (by omega) (by omega) (show (24 : Int) * (n : Int) ≤ _ by omega) (fun opr v6 e6 h6 g6 s6 => ?_)
      refine Sd_intro g6.old ?_
      refine ⟨?_, ?_⟩
      · refine MkC T_ok (z := .slice none 0 0) rfl rfl rfl rfl (n := (n : Int)) (by omega) (by omega) (show (24 : Int) * (n : Int) ≤ _ by omega) (fun orr v2 e2 h2 g2 s2 => ?_)
        refine Sd_intro (g6.no g2).old ?_
        refine ⟨?_, ?_⟩
        · refine NewC_blk (fun sh v4 e4 h4 g4 s4 => ?_)
          refine Sd_intro ((g6.no g2).no g4).old ?_
          refine ⟨?_, ?_⟩
          · refine MkC T_ok (z := .int .i64 0) rfl rfl rfl rfl (n := (n : Int)) (by omega) (by omega) (show (8 : Int) * (n : Int) ≤ _ by omega) (fun nxr v8 e8 h8 g8 s8 => ?_)
            refine Sd_intro (((g6.no g2).no g4).no g8).old ?_
            refine ⟨?_, trivial⟩
            refine NewC_blk (fun wb v11 e11 h11 g11 s11 => ?_)
            have FF := ((((g6.no g2).no g4).no g8).no g11)
            refine Sd_intro FF.old ?_
            exact fin wb sh orr opr nxr v11 FF h11 (h4.keep (g8.no g11) id) (h2.keep ((g4.no g8).no g11) id) (h6.keep (((g2.no g4).no g8).no g11) id) (h8.keep g11 id) (by omega) (by omega) (by omega) (by omega) (by omega) ⟨by omega, by omega, by omega, by omega, by omega, by omega, by omega, by omega, by omega, by omega⟩ ⟨rfl, rfl, rfl, rfl, rfl, trivial⟩
          exact trivial
        refine ⟨?_, ?_⟩
        · refine MkC T_ok (z := .int .i64 0) rfl rfl rfl rfl (n := (n : Int)) (by omega) (by omega) (show (8 : Int) * (n : Int) ≤ _ by omega) (fun nxr v8 e8 h8 g8 s8 => ?_)
          refine Sd_intro ((g6.no g2).no g8).old ?_
          refine ⟨?_, ?_⟩
          · refine NewC_blk (fun sh v4 e4 h4 g4 s4 => ?_)
            refine Sd_intro (((g6.no g2).no g8).no g4).old ?_
            refine ⟨?_, trivial⟩
            refine NewC_blk (fun wb v11 e11 h11 g11 s11 => ?_)
            have FF := ((((g6.no g2).no g8).no g4).no g11)
            refine Sd_intro FF.old ?_
            exact fin wb sh orr opr nxr v11 FF h11 (h4.keep g11 id) (h2.keep ((g8.no g4).no g11) id) (h6.keep (((g2.no g8).no g4).no g11) id) (h8.keep (g4.no g11) id) (by omega) (by omega) (by omega) (by omega) (by omega) ⟨by omega, by omega, by omega, by omega, by omega, by omega, by omega, by omega, by omega, by omega⟩ ⟨rfl, rfl, rfl, rfl, rfl, trivial⟩
          exact trivial
        exact trivial
      refine ⟨?_, ?_⟩
      · refine MkC T_ok (z := .int .i64 0) rfl rfl rfl rfl (n := (n : Int)) (by omega) (by omega) (show (8 : Int) * (n : Int) ≤ _ by omega) (fun nxr v8 e8 h8 g8 s8 => ?_)
        refine Sd_intro (g6.no g8).old ?_
        refine ⟨?_, ?_⟩
        · refine MkC T_ok (z := .slice none 0 0) rfl rfl rfl rfl (n := (n : Int)) (by omega) (by omega) (show (24 : Int) * (n : Int) ≤ _ by omega) (fun orr v2 e2 h2 g2 s2 => ?_)
          refine Sd_intro ((g6.no g8).no g2).old ?_
          refine ⟨?_, ?_⟩
          · refine NewC_blk (fun sh v4 e4 h4 g4 s4 => ?_)
            refine Sd_intro (((g6.no g8).no g2).no g4).old ?_
            refine ⟨?_, trivial⟩
            refine NewC_blk (fun wb v11 e11 h11 g11 s11 => ?_)
            have FF := ((((g6.no g8).no g2).no g4).no g11)
            refine Sd_intro FF.old ?_
            exact fin wb sh orr opr nxr v11 FF h11 (h4.keep g11 id) (h2.keep (g4.no g11) id) (h6.keep (((g8.no g2).no g4).no g11) id) (h8.keep ((g2.no g4).no g11) id) (by omega) (by omega) (by omega) (by omega) (by omega) ⟨by omega, by omega, by omega, by omega, by omega, by omega, by omega, by omega, by omega, by omega⟩ ⟨rfl, rfl, rfl, rfl, rfl, trivial⟩
          exact trivial
        exact trivial
      exact trivial
    refine ⟨?_, ?_⟩
    · refine MkC T_ok (z := .int .i64 0) rfl rfl rfl rfl (n := (n : Int)) (by omega) (by omega) (show (8 : Int) * (n : Int) ≤ _ by omega) (fun nxr v8 e8 h8 g8 s8 => ?_)
      refine Sd_intro g8.old ?_
      refine ⟨?_, ?_⟩
      · refine MkC T_ok (z := .slice none 0 0) rfl rfl rfl rfl (n := (n : Int)) (by omega) (by omega) (show (24 : Int) * (n : Int) ≤ _ by omega) (fun orr v2 e2 h2 g2 s2 => ?_)
        refine Sd_intro (g8.no g2).old ?_
        refine ⟨?_, ?_⟩
        · refine NewC_blk (fun sh v4 e4 h4 g4 s4 => ?_)
          refine Sd_intro ((g8.no g2).no g4).old ?_
          refine ⟨?_, ?_⟩
          · refine MkC T_ok (z := .slice none 0 0) rfl rfl rfl rfl (n := (n : Int)) (by omega) (by omega) (show (24 : Int) * (n : Int) ≤ _ by omega) (fun opr v6 e6 h6 g6 s6 => ?_)
            refine Sd_intro (((g8.no g2).no g4).no g6).old ?_
            refine ⟨?_, trivial⟩
            refine NewC_blk (fun wb v11 e11 h11 g11 s11 => ?_)
            have FF := ((((g8.no g2).no g4).no g6).no g11)
            refine Sd_intro FF.old ?_
            exact fin wb sh orr opr nxr v11 FF h11 (h4.keep (g6.no g11) id) (h2.keep ((g4.no g6).no g11) id) (h6.keep g11 id) (h8.keep (((g2.no g4).no g6).no g11) id) (by omega) (by omega) (by omega) (by omega) (by omega) ⟨by omega, by omega, by omega, by omega, by omega, by omega, by omega, by omega, by omega, by omega⟩ ⟨rfl, rfl, rfl, rfl, rfl, trivial⟩
          exact trivial
        refine ⟨?_, ?_⟩
        · refine MkC T_ok (z := .slice none 0 0) rfl rfl rfl rfl (n := (n : Int)) (by omega) (by omega) (show (24 : Int) * (n : Int) ≤ _ by omega) (fun opr v6 e6 h6 g6 s6 => ?_)
          refine Sd_intro ((g8.no g2).no g6).old ?_
          refine ⟨?_, ?_⟩
          · refine NewC_blk (fun sh v4 e4 h4 g4 s4 => ?_)
            refine Sd_intro (((g8.no g2).no g6).no g4).old ?_
            refine ⟨?_, trivial⟩
            refine NewC_blk (fun wb v11 e11 h11 g11 s11 => ?_)
            have FF := ((((g8.no g2).no g6).no g4).no g11)
            refine Sd_intro FF.old ?_
            exact fin wb sh orr opr nxr v11 FF h11 (h4.keep g11 id) (h2.keep ((g6.no g4).no g11) id) (h6.keep (g4.no g11) id) (h8.keep (((g2.no g6).no g4).no g11) id) (by omega) (by omega) (by omega) (by omega) (by omega) ⟨by omega, by omega, by omega, by omega, by omega, by omega, by omega, by omega, by omega, by omega⟩ ⟨rfl, rfl, rfl, rfl, rfl, trivial⟩
          exact trivial
        exact trivial
      refine ⟨?_, ?_⟩
      · refine MkC T_ok (z := .slice none 0 0) rfl rfl rfl rfl (n := (n : Int)) (by omega) (by omega) (show (24 : Int) * (n : Int) ≤ _ by omega) (fun opr v6 e6 h6 g6 s6 => ?_)
        refine Sd_intro (g8.no g6).old ?_
        refine ⟨?_, ?_⟩
        · refine MkC T_ok (z := .slice none 0 0) rfl rfl rfl rfl (n := (n : Int)) (by omega) (by omega) (show (24 : Int) * (n : Int) ≤ _ by omega) (fun orr v2 e2 h2 g2 s2 => ?_)
          refine Sd_intro ((g8.no g6).no g2).old ?_
          refine ⟨?_, ?_⟩
          · refine NewC_blk (fun sh v4 e4 h4 g4 s4 => ?_)
            refine Sd_intro (((g8.no g6).no g2).no g4).old ?_
            refine ⟨?_, trivial⟩
            refine NewC_blk (fun wb v11 e11 h11 g11 s11 => ?_)
            have FF := ((((g8.no g6).no g2).no g4).no g11)
            refine Sd_intro FF.old ?_
            exact fin wb sh orr opr nxr v11 FF h11 (h4.keep g11 id) (h2.keep (g4.no g11) id) (h6.keep ((g2.no g4).no g11) id) (h8.keep (((g6.no g2).no g4).no g11) id) (by omega) (by omega) (by omega) (by omega) (by omega) ⟨by omega, by omega, by omega, by omega, by omega, by omega, by omega, by omega, by omega, by omega⟩ ⟨rfl, rfl, rfl, rfl, rfl, trivial⟩
          exact trivial
        exact trivial
      exact trivial
    exact trivial

  rintro ⟨wb, sh, orr, opr, nxr⟩ w5 ⟨hW, hS, hO, hP, hX, F5, g1, g2, g3, g4, g5, n1, n2, n3, n4, n5, n6, n7, n8, n9, n10⟩
  have hW : Blk w5 wb t_gleanerlaw15_World (worldV hb gb sh (.slice none 0 0) opr nxr n) := hW
  have hS : Blk w5 sh t_mutate_Shared [.bool false, .slice (some ⟨orr, 0, none⟩) n n] := hS
  have hO : Blk w5 orr t_s_api_Ref (List.replicate n (.slice none 0 0)) := hO
  have hP : Blk w5 opr t_s_api_Op (List.replicate n (.slice none 0 0)) := hP
  have hX : Blk w5 nxr t_int (List.replicate n (.int .i64 0)) := hX
  have g1 : w.heap.size ≤ wb := g1
  have g2 : w.heap.size ≤ sh := g2
  have g3 : w.heap.size ≤ orr := g3
  have g4 : w.heap.size ≤ opr := g4
  have g5 : w.heap.size ≤ nxr := g5
  have n1 : wb ≠ sh := n1
  have n2 : wb ≠ orr := n2
  have n3 : wb ≠ opr := n3
  have n4 : wb ≠ nxr := n4
  have n5 : sh ≠ orr := n5
  have n6 : sh ≠ opr := n6
  have n7 : sh ≠ nxr := n7
  have n8 : orr ≠ opr := n8
  have n9 : orr ≠ nxr := n9
  have n10 : opr ≠ nxr := n10
  obtain ⟨z5, zl5, y1, y2, y3, y4, y5, zs5⟩ : ∃ z' : Nat → Nat, (∀ k, z' k < 600) ∧ z' wb = 310 ∧ z' sh = 311 ∧ z' orr = 312 ∧ z' opr = 314 ∧ z' nxr = 315 ∧ ∀ k, k < w.heap.size → z' k = z k := by
    refine ⟨zput (zput (zput (zput (zput z wb 310) sh 311) orr 312) opr 314) nxr 315, zput_lt (zput_lt (zput_lt (zput_lt (zput_lt (fun k => by have := hz k; omega) (by decide)) (by decide)) (by decide)) (by decide)) (by decide), ?_, ?_, ?_, ?_, zput_self, fun k hk => ?_⟩
    · rw [zput_ne n4, zput_ne n3, zput_ne n2, zput_ne n1, zput_self]
    · rw [zput_ne n7, zput_ne n6, zput_ne n5, zput_self]
    · rw [zput_ne n9, zput_ne n8, zput_self]
    · rw [zput_ne n10, zput_self]
    · rw [zput_ne (by omega), zput_ne (by omega), zput_ne (by omega), zput_ne (by omega), zput_ne (by omega)]
  have c0 : (cutOps L n 0).map opSl = List.replicate n (.slice none 0 0) := by
    apply List.ext_getElem?
    intro t
    rcases Nat.lt_or_ge t n with ht | ht
    · rw [List.getElem?_map, cutOps_get L n 0 t ht, if_neg (by omega), List.getElem?_replicate, if_pos ht]; rfl
    · rw [List.getElem?_eq_none (by rw [List.length_map, cutOps_len]; exact ht), List.getElem?_eq_none (by rw [List.length_replicate]; exact ht)]
  rw [← c0] at hP
  refine LoopC_intro (α := Int) (fun i => [(0, ptr hb), (1, ptr gb), (2, .slice oa L.length oc), (8, .int .i64 n), (9, ptr wb), (10, .int .i64 i)])
    (fun q i w' => ∃ (z' : Nat → Nat) (mv : Value) (ms : List Nat), (ms.length : Int) = i ∧ (Blk w' wb t_gleanerlaw15_World (worldV hb gb sh mv opr nxr n) ∧ z' wb = 310) ∧ (Blk w' sh t_mutate_Shared [.bool false, .slice (some ⟨orr, 0, none⟩) n n] ∧ z' sh = 311) ∧
      (Blk w' orr t_s_api_Ref (List.replicate n (.slice none 0 0)) ∧ z' orr = 312) ∧ (Blk w' opr t_s_api_Op ((cutOps L n i.toNat).map opSl) ∧ z' opr = 314) ∧ (Blk w' nxr t_int (List.replicate n (.int .i64 0)) ∧ z' nxr = 315) ∧
      (w'.ownsRow 0 t_p_mutate_Mutator 1 mv ms.length (ms.map ptr) ∧ ∀ k, mv.ownBlock = some k → z' k = 313) ∧ (∀ (t b : Nat), ms[t]? = some b → Blk w' b t_mutate_Mutator (mutL hb sh t newM) ∧ z' b = 500 + t) ∧
      Fr No w w' ∧ (∀ k, z' k < 600) ∧ (∀ k, k < w.heap.size → z' k = z k) ∧ 0 ≤ i ∧ i ≤ n ∧ q = (n - i).toNat)
    (n - 0 : Int).toNat 0 ⟨rfl, rfl, rfl, rfl, rfl, rfl, trivial⟩ ⟨z5, .slice none 0 0, [], rfl, ⟨hW, y1⟩, ⟨hS, y2⟩, ⟨hO, y3⟩, ⟨hP, y4⟩, ⟨hX, y5⟩, ⟨World.ownsRow_nil _ _ _ _, fun k hk => (by cases hk)⟩, fun t b h => (by cases h), F5, zl5, zs5, Int.le_refl _, (show (0 : Int) ≤ n by omega), rfl⟩ (fun q i w7 hJ => Kp ?_)
  obtain ⟨z7, mv, ms, hms, W7, S7, O7, P7, X7, M7, U7, F7, zl7, z07, i0, i1, hq⟩ := hJ
  have i0 : 0 ≤ i := i0
  have i1 : i ≤ n := i1
  have m07 : Mv z z7 (fun _ => False) w w7 := ⟨F7.weak (fun _ _ e => e.elim), z07⟩
  refine Br_dec (fun g => ?_) (fun g => ?_)
  · have g : i < n := g
    have H7 := h.mv m07 (fun _ _ => id)
    refine LdC_blk W7.1 rfl ?_
    have hS7 : Blk w7 sh t_mutate_Shared [.bool false, .slice (some ⟨orr, 0, none⟩) p.bs.length n] := by rw [hn]; exact S7.1
    refine CallC_intro (mutate_New_spec i w7 H7 hS7 (by rw [hn]; omega)) (fun v w8 ⟨b, hv, hB, f8, hb8, s8⟩ => ?_)
    subst hv
    have hi' : ((i.toNat : Nat) : Int) = i := by omega
    obtain ⟨z8, zl8, m8, y8⟩ : ∃ z' : Nat → Nat, (∀ k, z' k < 600) ∧ Mv z7 z' (fun _ => False) w7 w8 ∧ z' b = 500 + ms.length := ⟨_, zput_lt zl7 (by omega), (Mv.of f8).put (by omega : w7.heap.size ≤ b), zput_self⟩
    have W8 := W7.1.mv W7.2 m8 id
    have S8 := S7.1.mv S7.2 m8 id
    have O8 := O7.1.mv O7.2 m8 id
    have P8 := P7.1.mv P7.2 m8 id
    have X8 := X7.1.mv X7.2 m8 id
    have M8 := own_mv M7.1 M7.2 m8 id
    have U8 : ∀ (t q : Nat), ms[t]? = some q → Blk w8 q t_mutate_Mutator (mutL hb sh t newM) ∧ z8 q = 500 + t := fun t q hh => (U7 t q hh).1.mv (U7 t q hh).2 m8 id
    refine LdC_blk W8.1 rfl ?_
    refine NewC_blk (fun p9 w9 hp9 h9 f9 _ => ?_)
    have m9 : Mv z8 z8 (fun _ => False) w8 w9 := Mv.of f9
    refine ApL T_ok (e := t_p_mutate_Mutator) rfl rfl rfl (by decide) (own_keepV M8.1 f9 (fun _ _ => id)) (Nat.zero_le _) h9 (news := [ptr b]) rfl rfl rfl (by omega) (show (ms.length + 1) * 8 ≤ 140737488355328 by omega) (fun v' w10 o10 f10 l10 => ?_)
    have m10 : Mv z8 z8 (· = 313) w9 w10 := Mv.ofZ f10 (fun k hk e => M8.2 k e)
    have m810 : Mv z8 z8 (· = 313) w8 w10 := m9.trans m10 (fun _ e => e.elim) (fun _ e => e)
    refine own_slice o10 |>.elim fun a10 ⟨c10, e10⟩ => ?_
    subst e10
    have W10 := W8.1.mv W8.2 m810 (by decide)
    refine StC_blk W10.1 rfl rfl (fun w11 h11 f11 _ => ?_)
    have h11 : Blk w11 wb t_gleanerlaw15_World (worldV hb gb sh (.slice a10 (ms.length + 1) c10) opr nxr n) := h11
    have m11 : Mv z8 z8 (· = 310) w10 w11 := Mv.ofZ f11 (fun k _ e => by rw [e]; exact W8.2)
    have lo : ∀ k, (Value.slice a10 (ms.length + 1) c10).ownBlock = some k → z8 k = 313 ∨ w9.heap.size ≤ k := fun k hk => by
      rcases l10 with e | e
      · exact .inl (M8.2 k (by rw [← e]; exact hk))
      · rw [hk] at e; injection e with e; exact .inr (by omega)
    have Z11 : ∃ z' : Nat → Nat, (∀ k, z' k < 600) ∧ Mv z8 z' (fun i => i = 313 ∨ i = 310) w8 w11 ∧ ∀ k, (Value.slice a10 (ms.length + 1) c10).ownBlock = some k → z' k = 313 := by
      have mt : Mv z8 z8 (fun i => i = 313 ∨ i = 310) w8 w11 := m810.trans m11 (fun _ e => .inl e) (fun _ e => .inr e)
      rcases hob : (Value.slice a10 (ms.length + 1) c10).ownBlock with _ | k
      · exact ⟨z8, zl8, mt, fun k hk => (by cases hk)⟩
      · rcases lo k hob with e | e
        · exact ⟨z8, zl8, mt, fun k' hk => by injection hk with hk; rw [← hk]; exact e⟩
        · exact ⟨zput z8 k 313, zput_lt zl8 (by decide), mt.put (Nat.le_trans f9.size e), fun k' hk => by injection hk with hk; rw [← hk]; exact zput_self⟩
    obtain ⟨z11, zl11, M11, zo11⟩ := Z11
    have W11 : Blk w11 wb t_gleanerlaw15_World (worldV hb gb sh (.slice a10 (ms.length + 1) c10) opr nxr n) ∧ z11 wb = 310 := ⟨h11, (M11.zs wb W8.1.lt).trans W8.2⟩
    have S11 := S8.1.mv S8.2 M11 (by decide)
    have O11 := O8.1.mv O8.2 M11 (by decide)
    have P11 := P8.1.mv P8.2 M11 (by decide)
    have X11 := X8.1.mv X8.2 M11 (by decide)
    have R11 : w11.ownsRow 0 t_p_mutate_Mutator 1 (.slice a10 (ms.length + 1) c10) (ms ++ [b]).length ((ms ++ [b]).map ptr) := by
      rw [List.length_append, List.map_append]
      exact own_keepV o10 f11 (fun k hk e => by
        have e : k = wb := e
        subst e
        rcases lo k hk with e | e
        · rw [W8.2] at e; cases e
        · have := W8.1.lt; have := f9.size; omega)
    have hB11 : Blk w11 b t_mutate_Mutator (mutL hb sh ms.length newM) ∧ z11 b = 500 + ms.length := by
      have hB' : Blk w8 b t_mutate_Mutator (mutL hb sh ms.length newM) := by rw [hms]; exact hB
      exact hB'.mv y8 M11 (fun e => by omega)
    have U11 : ∀ (t q : Nat), (ms ++ [b])[t]? = some q → Blk w11 q t_mutate_Mutator (mutL hb sh t newM) ∧ z11 q = 500 + t := by
      intro t q hh
      rcases Nat.lt_or_ge t ms.length with ht | ht
      · rw [List.getElem?_append_left ht] at hh
        exact (U8 t q hh).1.mv (U8 t q hh).2 M11 (fun e => by omega)
      · rw [List.getElem?_append_right ht] at hh
        have : t - ms.length = 0 := by
          rcases Nat.eq_zero_or_pos (t - ms.length) with e | e
          · exact e
          · rw [List.getElem?_eq_none (by simp; omega)] at hh; cases hh
        rw [this] at hh
        injection hh with hh
        subst hh
        rw [show t = ms.length by omega]
        exact hB11
    have F11 : Fr No w w11 := by
      refine (F7.no f8).trans M11.fr (fun _ _ e => e) (fun k hk e => ?_)
      have e : z8 k = 313 ∨ z8 k = 310 := e
      have zz : z8 k = z7 k := m8.zs k (Nat.lt_of_lt_of_le hk F7.size)
      rw [zz, z07 k hk] at e
      have := hz' k hk
      omega
    have zs11 : ∀ k, k < w.heap.size → z11 k = z k := fun k hk => by
      have : k < w7.heap.size := Nat.lt_of_lt_of_le hk F7.size
      rw [M11.zs k (Nat.lt_of_lt_of_le this f8.size), m8.zs k this]; exact z07 k hk
    have len11 : (((ms ++ [b]).length : Nat) : Int) = i + 1 := by rw [List.length_append]; show ((ms.length + 1 : Nat) : Int) = i + 1; omega
    refine Br_dec (fun g6 => ?_) (fun g6 => ?_)
    · have g6 : i < (L.length : Int) := g6
      have hq6 := List.getElem?_eq_getElem (show i.toNat < L.length by omega)
      obtain ⟨qle, xa, hxa, hcell⟩ := (hL.keep F11) i.toNat _ hq6
      generalize L[i.toNat] = qq at hq6 qle hcell
      subst hxa
      have i64 : i < 64 := by omega
      have hadd : ∀ w' : World, w'.cell? (xa.add i.toNat) = some (opSl qq) → w'.cell? (xa.add (i.toNat * 1)) = some (opSl qq) := fun w' e => by rw [Nat.mul_one]; exact e
      refine AnyC_plan T_ok mixed (planO [0,1,2,3,4,5,6,7,8,9,10,11,12,13,14,15,16,1017]) (fun w' => Blk w' wb t_gleanerlaw15_World (worldV hb gb sh (.slice a10 (ms.length + 1) c10) opr nxr n) ∧ w'.cell? (xa.add i.toNat) = some (opSl qq)) (by kernel_rfl) (by kernel_rfl) ⟨W11.1.keep (Fr.drew _) id, hcell⟩ (Kp ?_)
      refine LdS_intro (fun w' hw => Blk.cell hw.1 (o := 3) rfl) ?_
      refine Sd_intro ⟨i0, g6⟩ ?_
      refine LdS_intro (fun w' hw => hadd w' hw.2) ?_
      refine Sd_intro ⟨i0, g6⟩ ?_
      refine LdS_intro (fun w' hw => hadd w' hw.2) ?_
      have hmin : imin (qq.2.1 : Int) 60 = ((min qq.2.1 60 : Nat) : Int) := by rw [imin_eq]; omega
      refine Sd_intro (show (0 : Int) ≤ 0 ∧ (0 : Int) ≤ imin (qq.2.1 : Int) 60 ∧ imin (qq.2.1 : Int) 60 ≤ (qq.2.2 : Int) by rw [hmin]; omega) ?_
      refine Sd_intro ⟨i0, g⟩ ?_
      have ev : Value.slice (cutA qq.1 qq.2.2 (0 : Int).toNat 1) ((imin (qq.2.1 : Int) 60).toNat - (0 : Int).toNat) (qq.2.2 - (0 : Int).toNat) = opSl (qq.1, min qq.2.1 60, qq.2.2) := by
        rw [hmin]
        have : cutA qq.1 qq.2.2 (0 : Int).toNat 1 = qq.1 := by
          unfold cutA
          split
          · rfl
          · cases qq.1 <;> rfl
        rw [this]; rfl
      have gP : ((cutOps L n i.toNat).map opSl)[0 + i.toNat * 1]? = some (opSl (none, 0, 0)) := by
        rw [Nat.zero_add, Nat.mul_one, List.getElem?_map, cutOps_get L n i.toNat i.toNat (by omega), if_neg (by omega)]; rfl
      refine ⟨?_, trivial⟩
      refine StC_idx (P11.1.keep (Fr.drew w11) id) rfl gP (fun w12 h12 f12 s12 => ?_)
      have h12 : Blk w12 opr t_s_api_Op (((cutOps L n i.toNat).map opSl).set (0 + i.toNat * 1) (Value.slice (cutA qq.1 qq.2.2 (0 : Int).toNat 1) ((imin (qq.2.1 : Int) 60).toNat - (0 : Int).toNat) (qq.2.2 - (0 : Int).toNat))) := h12
      rw [ev, Nat.zero_add, Nat.mul_one, ← List.map_set, cutOps_some (by omega) hq6] at h12
      have m12 : Mv z11 z11 (· = 314) w11 w12 := (Mv.of (Fr.drew w11)).trans (Mv.ofZ (S := (· = 314)) f12 (fun k _ e => by rw [e]; exact P11.2)) (fun _ e => e) (fun _ e => e)
      have W12 := W11.1.mv W11.2 m12 (by decide)
      have S12 := S11.1.mv S11.2 m12 (by decide)
      have O12 := O11.1.mv O11.2 m12 (by decide)
      have X12 := X11.1.mv X11.2 m12 (by decide)
      have R12 := own_mv R11 zo11 m12 (by decide)
      have et : (i + 1).toNat = i.toNat + 1 := by omega
      have P12 : Blk w12 opr t_s_api_Op ((cutOps L n (i + 1).toNat).map opSl) ∧ z11 opr = 314 := by rw [et]; exact ⟨h12, P11.2⟩
      have F12 : Fr No w w12 := (F11.no (Fr.drew w11)).new f12 (fun _ _ e => e) (fun k e => by rw [e]; exact g4)
      have hc12 : w12.cell? (xa.add i.toNat) = some (opSl qq) := by
        obtain ⟨_, x', hx', hc'⟩ := (hL.keep F12) i.toNat _ hq6
        injection hx' with hx'
        subst hx'; exact hc'
      refine Sd_intro ⟨W12.1, hc12⟩ ?_
      refine ⟨(n - (i + 1)).toNat, _, by omega, ?_, i + 1, rfl, z11, .slice a10 (ms.length + 1) c10, ms ++ [b], len11, W12, S12, O12, P12, X12, R12, fun t q hh => (U11 t q hh).1.mv (U11 t q hh).2 m12 (fun e => by omega), F12, zl11, zs11, by omega, by omega, rfl⟩
      exact ⟨rfl, rfl, rfl, rfl, rfl, look_int rfl (wrap_i64 (by omega) (by omega)), trivial⟩
    · have g6 : ¬ i < (L.length : Int) := g6
      have e6 : L[i.toNat]? = none := List.getElem?_eq_none (by omega)
      have et : (i + 1).toNat = i.toNat + 1 := by omega
      have P12 : Blk w11 opr t_s_api_Op ((cutOps L n (i + 1).toNat).map opSl) ∧ z11 opr = 314 := by rw [et, cutOps_none e6]; exact P11
      refine ⟨(n - (i + 1)).toNat, _, by omega, ?_, i + 1, rfl, z11, .slice a10 (ms.length + 1) c10, ms ++ [b], len11, W11, S11, O11, P12, X11, ⟨R11, zo11⟩, U11, F11, zl11, zs11, by omega, by omega, rfl⟩
      exact ⟨rfl, rfl, rfl, rfl, rfl, look_int rfl (wrap_i64 (by omega) (by omega)), trivial⟩
  · have g : ¬ i < (n : Int) := g
    have en : ms.length = n := by omega
    have ei : i.toNat = n := by omega
    refine ⟨wb, ⟨sh, orr, mv, opr, nxr, .slice none 0 0, ms⟩, z7, rfl, ⟨?_, W7.2, ?_, S7.2, ⟨List.replicate n (.slice none 0 0), by rw [List.length_replicate]; exact en.symm, O7.1, ?_⟩, O7.2, ?_, M7.1, M7.2, ?_, P7.2, ?_, ?_, X7.2, ?_, World.ownsRow_nil _ _ _ _, fun k hk => (by cases hk), ?_, ?_⟩, en, m07, zl7⟩
    · show Blk w7 wb t_gleanerlaw15_World (worldV hb gb sh mv opr nxr ms.length)
      rw [en]; exact W7.1
    · show Blk w7 sh t_mutate_Shared [.bool false, .slice (some ⟨orr, 0, none⟩) ms.length ms.length]
      rw [en]; exact S7.1
    · intro t v l hv hl
      have := (List.mem_replicate.1 (List.mem_of_getElem? hv)).2
      subst this
      have := (List.mem_replicate.1 (List.mem_of_getElem? hl)).2
      subst this
      exact ⟨World.ownsRow_nil _ _ _ _, fun k hk => (by cases hk)⟩
    · show (List.replicate n ([] : List Int)).length = ms.length; rw [List.length_replicate, en]
    · show Blk w7 opr t_s_api_Op ((cutOps L n n).map opSl)
      rw [ei] at P7; exact P7.1
    · show (cutOps L n n).length = ms.length; rw [cutOps_len, en]
    · show Blk w7 nxr t_int (ints (List.replicate n 0))
      have : ints (List.replicate n 0) = List.replicate n (.int .i64 0) := by simp [ints]
      rw [this]; exact X7.1
    · show (List.replicate n (0 : Int)).length = ms.length; rw [List.length_replicate, en]
    · show (List.replicate n newM).length = ms.length; rw [List.length_replicate, en]
    · intro t b m hb hm
      have := (List.mem_replicate.1 (List.mem_of_getElem? hm)).2
      subst this
      exact U7 t b hb
end Go.Proofs.Ythmkimnpdnmahaa
