/- Layer 15 (mutate): stack, size. -/
import Derived.Test.YthmkimnpdnmahaaMut2
import Derived.Test.YthmkimnpdnmahaaHead
namespace Go.Proofs.Ythmkimnpdnmahaa
open Go.Vc

/-- The heap's own cells, its rows' addresses known. -/
theorem HeapAt.root {w : World} {z : Nat → Nat} {c : Cfg} {hb : Nat} {p : HP} {s : HS} (h : HeapAt w z c hb p s) {t : Int} (h0 : 0 ≤ t) (h1 : t < (p.bs.length : Int)) :
    ∃ g cap cur b, p.vr = .slice (some ⟨g, 0, none⟩) p.bs.length cap ∧ Blk w g t_p_roots_Stack cur ∧ cur[0 + t.toNat * 1]? = some (ptr b) ∧ p.bs[t.toNat]? = some b := by
  rcases own_cases h.rootr with ⟨_, hn, _⟩ | ⟨g, cap, cur, hv, _, hc, ht, _⟩
  · omega
  · have hb := List.getElem?_eq_getElem (show t.toNat < p.bs.length by omega)
    refine ⟨g, cap, cur, _, hv, hc, ?_, hb⟩
    have : (p.bs.map ptr)[t.toNat]? = some (ptr p.bs[t.toNat]) := by rw [List.getElem?_map, hb]; rfl
    rw [← ht, List.getElem?_take, if_pos (by omega)] at this
    rw [Nat.zero_add, Nat.mul_one]; exact this
theorem HeapAt.cells {w : World} {z : Nat → Nat} {c : Cfg} {hb : Nat} {p : HP} {s : HS} (h : HeapAt w z c hb p s) : ∃ ra rc, p.vr = .slice ra p.bs.length rc ∧
    Blk w hb t_heap_Heap (cfgL c ++ geoC c ++ [ptr p.ab, ptr p.rb, ptr p.ob, ptr p.cb, ptr p.qb, ptr p.sb, ptr p.mb, .slice ra p.bs.length rc, .slice (some ⟨p.bf, 0, none⟩) c.c3.toNat c.c3.toNat]) := by
  obtain ⟨ra, rc, hr⟩ := own_slice h.rootr
  refine ⟨ra, rc, hr, ?_⟩
  have := h.tab; unfold heapL at this; rw [hr] at this; exact this
theorem stack_spec {c : Cfg} {p : HP} {hb sh mb : Nat} {z : Nat → Nat} {s : HS} {t : Int} {m : Mu} (w : World) (h : HeapAt w z c hb p s) (hm : Blk w mb t_mutate_Mutator (mutL hb sh t m)) (h0 : 0 ≤ t) (h1 : t < (p.bs.length : Int)) :
    CallC Pr f_mutate_Mutator_stack [ptr mb] w (fun r w' => (∃ b, r = ptr b ∧ p.bs[t.toNat]? = some b) ∧ Fr No w w') := by
  obtain ⟨g, cap, cur, b, hv, hg, hc, hb'⟩ := h.root h0 h1
  obtain ⟨ra, rc, hr, hT⟩ := h.cells
  rw [hv] at hr
  injection hr with e1 e2 e3
  subst e1 e3
  refine call_sound T_ok fun_mutate_Mutator_stack rfl (by kernel_rfl) rfl (Kp ?_)
  refine AnyC_lex T_ok mixed (by kernel_rfl) (by kernel_rfl) (Kp ?_)
  refine LdS_blk hm rfl ?_
  refine LdS_blk hT rfl ?_
  refine LdS_blk hm rfl ?_
  refine Sd_intro ⟨h0, h1⟩ ?_
  refine LdS_idx hg hc ?_
  exact ⟨⟨b, rfl, hb'⟩, Fr.drew _⟩
/-- What size answers. -/
def sizeE (most a b room : Int) : Int := if a < 0 ∨ b < 0 ∨ most < a ∨ most < b ∨ a + b = 0 ∨ most ≤ a + b then 13 else if room = 0 then 15 else 0
theorem size_spec {c : Cfg} {p : HP} {hb sh mb : Nat} {z : Nat → Nat} {s : HS} {t : Int} {m : Mu} {l : List Int} (w : World) (h : HeapAt w z c hb p s) (hm : Blk w mb t_mutate_Mutator (mutL hb sh t m)) (h0 : 0 ≤ t) (h1 : t < (p.bs.length : Int)) (hl : s.refs[t.toNat]? = some l) :
    CallC Pr f_mutate_Mutator_size [ptr mb] w (fun r w' => r = .int .i64 (sizeE (min 1048576 (c.c1 * P c - P c)) m.a m.b (c.c4 - l.length)) ∧ Fr No w w') := by
  have hp := P_le h.ok
  obtain ⟨ra, rc, hr, hT⟩ := h.cells
  generalize hM : min 1048576 (c.c1 * P c - P c) = most at *
  have hmost : 64 ≤ most ∧ most ≤ 1048576 := by omega
  have hT : Blk w hb t_heap_Heap (cfgL c ++ geoL (c.c1 * P c) (P c) (Q c) c.c1 (c.c1 * P c / Q c) most ++ [ptr p.ab, ptr p.rb, ptr p.ob, ptr p.cb, ptr p.qb, ptr p.sb, ptr p.mb, .slice ra p.bs.length rc, .slice (some ⟨p.bf, 0, none⟩) c.c3.toNat c.c3.toNat]) := by
    have := hT; unfold geoC at this; rw [hM] at this; exact this
  refine call_sound T_ok fun_mutate_Mutator_size rfl (by kernel_rfl) rfl (Kp ?_)
  refine AnyC_plan T_ok mixed (planO [0,1,2,3,4,5,6,7,8,9,10,11,1012,13,1014]) (Old w.drew) (by kernel_rfl) (by kernel_rfl) (fun _ _ => rfl) (Kp ?_)
  have hm1 := hm.keep (Fr.drew w) id
  have hT1 := hT.keep (Fr.drew w) id
  refine LdS_blk hm1 rfl ?_
  refine LdS_blk hT1 rfl ?_
  refine LdSN_blk (vs := opL m.k m.a m.b m.c m.v) hm1 rfl rfl ?_
  refine ⟨?_, trivial⟩
  refine NewC_blk (fun q w1 hq h1' f1 s1 => ?_)
  refine Sd_intro f1.old ?_
  refine ⟨?_, trivial⟩
  refine StN_blk h1' rfl (Nat.le_of_ble_eq_true rfl) (fun w2 h2 f2 s2 => ?_)
  have h2 : Blk w2 q t_api_Op (opL m.k m.a m.b m.c m.v) := h2
  have f12 : Fr No w.drew w2 := f1.new f2 (fun _ _ e => e) (fun k e => by omega)
  have F2 : Fr No w w2 := (Fr.drew w).no f12
  refine Sd_intro f12.old ?_
  have bad : (m.a < 0 ∨ m.b < 0 ∨ most < m.a ∨ most < m.b ∨ m.a + m.b = 0 ∨ most ≤ m.a + m.b) → Value.int .i64 13 = .int .i64 (sizeE most m.a m.b (c.c4 - l.length)) ∧ Fr No w w2 := fun e => ⟨by unfold sizeE; rw [if_pos e], F2⟩
  refine LdC_blk h2 rfl ?_
  refine Br_dec (fun e1 => bad (.inl e1)) (fun e1 => ?_)
  have e1 : ¬ m.a < 0 := e1
  refine LdC_blk h2 rfl ?_
  refine Br_dec (fun e2 => bad (.inr (.inl e2))) (fun e2 => ?_)
  have e2 : ¬ m.b < 0 := e2
  refine LdC_blk h2 rfl ?_
  refine Br_dec (fun e3 => bad (.inr (.inr (.inl e3)))) (fun e3 => ?_)
  have e3 : ¬ m.a > most := e3
  refine LdC_blk h2 rfl ?_
  refine Br_dec (fun e4 => bad (.inr (.inr (.inr (.inl e4))))) (fun e4 => ?_)
  have e4 : ¬ m.b > most := e4
  have ew : IntKind.i64.wrap (m.a + m.b) = m.a + m.b := wrap_i64 (by omega) (by omega)
  refine LdC_blk h2 rfl ?_
  refine LdC_blk h2 rfl ?_
  refine Br_dec (fun e5 => bad (.inr (.inr (.inr (.inr (.inl (ew.symm.trans e5))))))) (fun e5 => ?_)
  have e5 : ¬ IntKind.i64.wrap (m.a + m.b) = 0 := e5
  rw [ew] at e5
  refine LdC_blk h2 rfl ?_
  refine LdC_blk h2 rfl ?_
  refine Br_dec (fun e6 => bad (.inr (.inr (.inr (.inr (.inr (by have e6 : IntKind.i64.wrap (m.a + m.b) ≥ most := e6; rw [ew] at e6; exact e6))))))) (fun e6 => ?_)
  have e6 : ¬ IntKind.i64.wrap (m.a + m.b) ≥ most := e6
  rw [ew] at e6
  have good : ¬ (m.a < 0 ∨ m.b < 0 ∨ most < m.a ∨ most < m.b ∨ m.a + m.b = 0 ∨ most ≤ m.a + m.b) := by omega
  have m2 : Mv z z (fun _ => False) w w2 := Mv.of F2
  have H2 := h.mv m2 (fun _ _ => id)
  refine CallC_intro (stack_spec w2 H2 (hm.keep F2 id) h0 h1) (fun v w3 ⟨⟨b, hv, hb'⟩, f3⟩ => ?_)
  subst hv
  have H3 := H2.mv (Mv.of (S := fun _ => False) f3) (fun _ _ => id)
  obtain ⟨sv, hS, _, _⟩ := H3.stacks _ b l hb' hl
  refine CallC_intro (roots_Room_spec w3 hS) (fun v w4 ⟨hv, f4⟩ => ?_)
  subst hv
  have F4 := (F2.no f3).no f4
  refine Br_dec (fun e7 => ?_) (fun e7 => ?_)
  · have e7 : c.c4 - (l.length : Int) = 0 := e7
    have r : Value.int .i64 15 = .int .i64 (sizeE most m.a m.b (c.c4 - l.length)) := by unfold sizeE; rw [if_neg good, if_pos e7]
    exact ⟨r, F4⟩
  · have e7 : ¬ c.c4 - (l.length : Int) = 0 := e7
    have r : Value.int .i64 0 = .int .i64 (sizeE most m.a m.b (c.c4 - l.length)) := by unfold sizeE; rw [if_neg good, if_neg e7]
    exact ⟨r, F4⟩
end Go.Proofs.Ythmkimnpdnmahaa
