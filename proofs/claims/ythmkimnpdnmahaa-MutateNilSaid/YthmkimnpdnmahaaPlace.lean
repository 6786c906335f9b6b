/- Layer 15 (mutate): place, of what isn't big. -/
import Derived.Test.YthmkimnpdnmahaaMut3
import Derived.Test.YthmkimnpdnmahaaHeap5
import Derived.Test.YthmkimnpdnmahaaVcI
import Derived.Test.YthmkimnpdnmahaaGeom5
namespace Go.Proofs.Ythmkimnpdnmahaa
open Go.Vc

def HS.regs (s : HS) (rs : List R) : HS := { s with rs := rs }
def HS.buf (s : HS) (l : List (Int × Int)) : HS := { s with bufs := l }
/-- The regions behind Drop: the top goes back to what was taken. -/
def rsDrop (c : Cfg) (x : Int × Int) (rs : List R) : List R := if x.1 < x.2 then (setTopF (P c) (x.1 / P c) x.1 rs).2 else rs
/-- What place comes to: (there are words, where, the heap's state). -/
inductive Placed (c : Cfg) (t : Nat) (n : Int) (x : Int × Int) (s : HS) : Bool → Int → HS → Prop where
  | take : n ≤ x.2 - x.1 → Placed c t n x s true x.1 (s.buf (s.bufs.set t (x.1 + n, x.2)))
  | young : x.2 - x.1 < n → c.c7 ≤ (idxs 1 (rsDrop c x s.rs) (rsDrop c x s.rs).length).length → Placed c t n x s false 0 ((s.regs (rsDrop c x s.rs)).buf (s.bufs.set t (0, 0)))
  | full : x.2 - x.1 < n → ((idxs 1 (rsDrop c x s.rs) (rsDrop c x s.rs).length).length : Int) < c.c7 → (∀ (j : Nat) (y : R), (rsDrop c x s.rs)[j]? = some y → y.1 ≠ 0) → Placed c t n x s false 0 ((s.regs (rsDrop c x s.rs)).buf (s.bufs.set t (0, 0)))
  | claim (k : Nat) (y : R) : x.2 - x.1 < n → ((idxs 1 (rsDrop c x s.rs) (rsDrop c x s.rs).length).length : Int) < c.c7 → (rsDrop c x s.rs)[k]? = some y → y.1 = 0 → (∀ (j : Nat) (q : R), j < k → (rsDrop c x s.rs)[j]? = some q → q.1 ≠ 0) →
      Placed c t n x s true (k * P c) ((s.regs ((rsDrop c x s.rs).set k (1, P c, y.2.2))).buf (s.bufs.set t (k * P c + n, k * P c + P c)))
theorem bufL_len (l : List (Int × Int)) : (bufL l).length = 2 * l.length := by
  induction l with
  | nil => rfl
  | cons a l ih => simp [bufL] at ih ⊢; omega
theorem rsDrop_len (c : Cfg) (x : Int × Int) (rs : List R) : (rsDrop c x rs).length = rs.length := by
  unfold rsDrop
  split
  · unfold setTopF
    split
    · rfl
    · split
      · rfl
      · split
        · simp
        · rfl
  · rfl
theorem place_spec {c : Cfg} {p : HP} {hb sh mb : Nat} {z : Nat → Nat} {s : HS} {t : Int} {m : Mu} {x : Int × Int} (n : Int) (w : World) (h : HeapAt w z c hb p s) (hm : Blk w mb t_mutate_Mutator (mutL hb sh t m)) (h0 : 0 ≤ t) (hx : s.bufs[t.toNat]? = some x)
    (hz : z mb ≠ 3 ∧ z mb ≠ 10) (hn : 1 ≤ n) (hn2 : n ≤ P c / 2) (hxb : 0 ≤ x.1 ∧ x.1 ≤ 4194304 ∧ 0 ≤ x.2 ∧ x.2 ≤ 4194304) (hxr : x.1 < x.2 → x.1 < c.c1 * P c) :
    CallC Pr f_mutate_Mutator_place [ptr mb, .int .i64 n] w (fun r w' => ∃ ok pos s', r = .tuple #[.int .i64 pos, .bool ok] ∧ Placed c t.toNat n x s ok pos s' ∧ HeapAt w' z c hb p s' ∧ Mv z z (fun i => i = 3 ∨ i = 10) w w') := by
  have hp := P_le h.ok
  have c3 := h.c3
  have hbl := h.bufl
  have tl := (List.getElem?_eq_some_iff.1 hx).1
  have ht : t < c.c3 := by omega
  obtain ⟨ra, rc, hr, hT⟩ := h.cells
  have s0 := h.ok.s0
  have s1 := h.ok.s1
  refine call_sound T_ok fun_mutate_Mutator_place rfl (by kernel_rfl) rfl (Kp ?_)
  refine LdC_blk hm rfl ?_
  refine LdN_blk (vs := geoC c) hT rfl rfl ?_
  refine CallC_intro (Big_spec (c.c1 * P c) (P c) (Q c) c.c1 (c.c1 * P c / Q c) (min 1048576 (c.c1 * P c - P c)) n w) (fun v w1 ⟨hv, f1⟩ => ?_)
  rw [decide_eq_false (show ¬ n > P c / 2 by omega)] at hv
  subst hv
  have m1 : Mv z z (fun _ => False) w w1 := Mv.of f1
  have H1 := h.mv m1 (fun _ _ => id)
  have hm1 := hm.keep f1 id
  have hT1 := hT.keep f1 id
  refine AnyC_lex T_ok mixed (by kernel_rfl) (by kernel_rfl) (Kp ?_)
  refine LdS_blk hT1 rfl ?_
  refine LdS_blk hm1 rfl ?_
  refine Sd_intro ⟨h0, (show t < ((c.c3.toNat : Nat) : Int) by omega)⟩ ?_
  have f1d := f1.no (Fr.drew w1)
  have H1 := h.mv (Mv.of (S := fun _ => False) f1d) (fun _ _ => id)
  have B1 := H1.buf hx
  have ea : (⟨p.bf, 0 + t.toNat * 2, none⟩ : Addr) = (Addr.mk p.bf 0 none).add (t.toNat * 2) := add_of.symm
  rcases Int.lt_or_le (x.2 - x.1) n with hlt | hge
  · have TF := Take_full n w1.drew B1 ⟨hxb.1, hxb.2.1, hxb.2.2.1, hxb.2.2.2⟩ hn hlt
    rw [ea] at TF
    refine CallC_intro TF (fun v w2 ⟨hv, f2⟩ => ?_)
    subst hv
    have f02 := f1d.no f2
    have H2 := h.mv (Mv.of (S := fun _ => False) f02) (fun _ _ => id)
    have DR := buf_Drop_spec w2 (H2.buf hx)
    rw [ea] at DR
    refine CallC_intro DR (fun v w3 ⟨hv, hB3, f3⟩ => ?_)
    subst hv
    have hB3 := hB3.blk
    rw [bufL_both hx] at hB3
    have m3 : Mv z z (· = 10) w2 w3 := Mv.ofZ f3 (fun k _ e => by rw [e]; exact H2.bufz)
    have H3 := H2.setBuf m3 hB3 (by rw [List.length_set]; exact hbl)
    have hT3 : Blk w3 hb t_heap_Heap (cfgL c ++ geoC c ++ [ptr p.ab, ptr p.rb, ptr p.ob, ptr p.cb, ptr p.qb, ptr p.sb, ptr p.mb, .slice ra p.bs.length rc, .slice (some ⟨p.bf, 0, none⟩) c.c3.toNat c.c3.toNat]) := by
      have := H3.tab; unfold heapL at this; rw [hr] at this; exact this
    have hm3 : Blk w3 mb t_mutate_Mutator (mutL hb sh t m) := (hm.keep f02 id).keep m3.fr hz.2
    have mm3 : Mv z z (fun i => i = 3 ∨ i = 10) w w3 := (Mv.of (S := fun _ => False) f02).trans m3 (fun _ e => e.elim) (fun _ e => .inr e)
    have eP : P c = 2 ^ c.c0.toNat := rfl
    -- behind Drop: the regions' tops
    have key : ∀ w4 : World, HeapAt w4 z c hb p ((s.regs (rsDrop c x s.rs)).buf (s.bufs.set t.toNat (0, 0))) → Blk w4 mb t_mutate_Mutator (mutL hb sh t m) → Mv z z (fun i => i = 3 ∨ i = 10) w w4 → True := fun _ _ _ _ => trivial
    refine Br_dec (fun g => ?_) (fun g => ?_)
    · have g : x.1 < x.2 := g
      refine AnyC_plan T_ok mixed (planO [0,1,2,3,4,5,6,7,8,10,1009,1011]) (fun w' => Blk w' hb t_heap_Heap (cfgL c ++ geoC c ++ [ptr p.ab, ptr p.rb, ptr p.ob, ptr p.cb, ptr p.qb, ptr p.sb, ptr p.mb, .slice ra p.bs.length rc, .slice (some ⟨p.bf, 0, none⟩) c.c3.toNat c.c3.toNat])) (by kernel_rfl) (by kernel_rfl) (hT3.keep (Fr.drew w3) id) (Kp ?_)
      refine LdS_of (fun w' hw => hw) rfl ?_
      refine LdSN_of (vs := geoC c) (fun w' hw => hw) rfl rfl ?_
      refine ⟨?_, trivial⟩
      refine CallC_intro (Region_spec (c.c1 * P c) (Q c) c.c1 (c.c1 * P c / Q c) (min 1048576 (c.c1 * P c - P c)) x.1 c.c0.toNat (by omega) w3.drew) (fun v w3' ⟨hv, f3'⟩ => ?_)
      have hx1 := hxr g
      rw [if_neg (by omega)] at hv
      subst hv
      have f33 := (Fr.drew w3).no f3'
      refine Sd_intro (hT3.keep f33 id) ?_
      refine ⟨?_, trivial⟩
      have H3' := H3.mv (Mv.of (S := fun _ => False) f33) (fun _ _ => id)
      obtain ⟨rr0, hR3, zrb0, zrr0⟩ := H3'.regs
      refine CallC_intro (SetTop_spec (x.1 / P c) x.1 w3' hR3) (fun v w4 ⟨hv, hR4', f4⟩ => ?_)
      subst hv
      have m4 : Mv z z (· = 3) w3' w4 := Mv.ofZ f4 (fun k _ e => by rw [e]; exact zrr0)
      have ers : (setTopF (P c) (x.1 / P c) x.1 s.rs).2 = rsDrop c x s.rs := by unfold rsDrop; rw [if_pos g]
      have hrl4 : ((setTopF (P c) (x.1 / P c) x.1 s.rs).2.length : Int) = c.c1 := by rw [ers, rsDrop_len]; exact h.rsl
      have H4 := H3'.setRegs m4 ⟨rr0, hR4', zrb0, zrr0⟩ hrl4
      have H4 : HeapAt w4 z c hb p ((s.regs (rsDrop c x s.rs)).buf (s.bufs.set t.toNat (0, 0))) := by rw [← ers]; exact H4
      have mm4 : Mv z z (fun i => i = 3 ∨ i = 10) w w4 := (mm3.no f33).trans m4 (fun _ e => e) (fun _ e => .inl e)
      refine Sd_intro (by have := H4.tab; unfold heapL at this; rw [hr] at this; exact this) ?_
      have hT4 : Blk w4 hb t_heap_Heap (cfgL c ++ geoC c ++ [ptr p.ab, ptr p.rb, ptr p.ob, ptr p.cb, ptr p.qb, ptr p.sb, ptr p.mb, .slice ra p.bs.length rc, .slice (some ⟨p.bf, 0, none⟩) c.c3.toNat c.c3.toNat]) := by
        have := H4.tab; unfold heapL at this; rw [hr] at this; exact this
      obtain ⟨rr, hR4, zrb, zrr⟩ := H4.regs
      have hR4 : IsReg w4 p.rb rr (P c) (rsDrop c x s.rs) := hR4
      have hrl : ((rsDrop c x s.rs).length : Int) = c.c1 := by rw [rsDrop_len]; exact h.rsl
      refine AnyC_plan T_ok mixed (planL [0,1,2,3,6,7,8,9,10,1004,5,11]) (Old w4.drew) (by kernel_rfl) (by kernel_rfl) (fun _ _ => rfl) (Kp ?_)
      refine LdS_blk (hT4.keep (Fr.drew w4) id) rfl ?_
      refine LdS_blk (hT4.keep (Fr.drew w4) id) rfl ?_
      refine ⟨?_, trivial⟩
      refine CallC_intro (region_List_spec 1 w4.drew (hR4.keep (Fr.drew w4) id id)) (fun v w5 ⟨o5, f5⟩ => ?_)
      obtain ⟨a5, c5, rfl⟩ := own_slice o5
      refine Sd_intro f5.old ?_
      have f45 := (Fr.drew w4).no f5
      have H5 := H4.mv (Mv.of (S := fun _ => False) f45) (fun _ _ => id)
      have mm5 := mm4.no f45
      refine Br_dec (fun gy => ?_) (fun gy => ?_)
      · have gy : ((idxs 1 (rsDrop c x s.rs) (rsDrop c x s.rs).length).length : Int) ≥ c.c7 := gy
        exact ⟨false, 0, _, rfl, .young hlt gy, H5, mm5⟩
      have gy : ¬ ((idxs 1 (rsDrop c x s.rs) (rsDrop c x s.rs).length).length : Int) ≥ c.c7 := gy
      have hT5 := hT4.keep f45 id
      have hR5 := hR4.keep f45 id id
      refine LdC_blk hT5 rfl ?_
      refine CallC_intro (Claim_spec 1 w5 hR5 ⟨by decide, by decide⟩) (fun v w6 ⟨rs', hc, hR6, f6⟩ => ?_)
      have m6 : Mv z z (· = 3) w5 w6 := Mv.ofZ f6 (fun k _ e => by rw [e]; exact zrr)
      have mm6 : Mv z z (fun i => i = 3 ∨ i = 10) w w6 := mm5.trans m6 (fun _ e => e) (fun _ e => .inl e)
      rcases hc with ⟨k, y, hk, y0, hfirst, rfl, rfl⟩ | ⟨hall, rfl, rfl⟩
      · have hkl : k < (rsDrop c x s.rs).length := (List.getElem?_eq_some_iff.1 hk).1
        have hkP : (k : Int) * P c + P c ≤ c.c1 * P c := by
          have : ((k : Int) + 1) * P c ≤ c.c1 * P c := Int.mul_le_mul_of_nonneg_right (by omega) (by omega)
          rw [Int.add_mul, Int.one_mul] at this; exact this
        have hkP0 : 0 ≤ (k : Int) * P c := Int.mul_nonneg (by omega) (by omega)
        have hrl6 : (((rsDrop c x s.rs).set k (1, y.2)).length : Int) = c.c1 := by rw [List.length_set]; exact hrl
        have H6 := H5.setRegs m6 ⟨rr, hR6, zrb, zrr⟩ hrl6
        have hT6 : Blk w6 hb t_heap_Heap (cfgL c ++ geoC c ++ [ptr p.ab, ptr p.rb, ptr p.ob, ptr p.cb, ptr p.qb, ptr p.sb, ptr p.mb, .slice ra p.bs.length rc, .slice (some ⟨p.bf, 0, none⟩) c.c3.toNat c.c3.toNat]) := by
          have := H6.tab; unfold heapL at this; rw [hr] at this; exact this
        refine LdN_blk (vs := geoC c) hT6 rfl rfl ?_
        refine CallC_intro (Base_spec (c.c1 * P c) (Q c) c.c1 (c.c1 * P c / Q c) (min 1048576 (c.c1 * P c - P c)) (k : Int) c.c0.toNat (by omega) (show c.c1 * P c ≤ 4194304 by omega) w6) (fun v w7 ⟨hv, f7⟩ => ?_)
        rw [if_neg (by omega)] at hv
        subst hv
        have H7 := H6.mv (Mv.of (S := fun _ => False) f7) (fun _ _ => id)
        have hT7 := hT6.keep f7 id
        have hR7 := hR6.keep f7 id id
        refine AnyC_plan T_ok mixed (planO [0,1,2,3,4,5,6,7,8,9,10,11,1012]) (fun w' => Blk w' hb t_heap_Heap (cfgL c ++ geoC c ++ [ptr p.ab, ptr p.rb, ptr p.ob, ptr p.cb, ptr p.qb, ptr p.sb, ptr p.mb, .slice ra p.bs.length rc, .slice (some ⟨p.bf, 0, none⟩) c.c3.toNat c.c3.toNat])) (by kernel_rfl) (by kernel_rfl) (hT7.keep (Fr.drew w7) id) (Kp ?_)
        refine LdS_of (fun w' hw => hw) rfl ?_
        refine LdS_of (fun w' hw => hw) rfl ?_
        refine ⟨?_, trivial⟩
        have ew : IntKind.i64.wrap ((k : Int) * P c + P c) = (k : Int) * P c + P c := wrap_i64 (by omega) (by omega)
        have f7d := f7.no (Fr.drew w7)
        have H7d := H6.mv (Mv.of (S := fun _ => False) f7d) (fun _ _ => id)
        have hR7d := hR6.keep f7d id id
        have hST := SetTop_spec (k : Int) ((k : Int) * P c + P c) w7.drew hR7d
        rw [← ew] at hST
        refine CallC_intro hST (fun v w8 ⟨hv, hR8, f8⟩ => ?_)
        rw [ew] at hR8
        subst hv
        have eST : (setTopF (P c) (k : Int) ((k : Int) * P c + P c) ((rsDrop c x s.rs).set k (1, y.2))).2 = (rsDrop c x s.rs).set k (1, P c, y.2.2) := by
          have e1 : rget ((rsDrop c x s.rs).set k (1, y.2)) (k : Int) = some (1, y.2) := by
            unfold rget
            rw [if_pos (by omega), Int.toNat_natCast, List.getElem?_set_self hkl]
          unfold setTopF
          rw [e1]
          simp only
          rw [if_neg (by rw [Int.add_mul, Int.one_mul]; omega), if_pos (by unfold plainP; decide), Int.toNat_natCast, List.set_set]
          show (rsDrop c x s.rs).set k ((1 : Int), (k : Int) * P c + P c - (k : Int) * P c, y.2.2) = _
          rw [show (k : Int) * P c + P c - (k : Int) * P c = P c by omega]
        rw [eST] at hR8
        have m8 : Mv z z (· = 3) w7.drew w8 := Mv.ofZ f8 (fun k _ e => by rw [e]; exact zrr)
        have H8 := H7d.setRegs m8 ⟨rr, hR8, zrb, zrr⟩ (by rw [List.length_set]; exact hrl)
        have mm8 : Mv z z (fun i => i = 3 ∨ i = 10) w w8 := (mm6.no f7d).trans m8 (fun _ e => e) (fun _ e => .inl e)
        have hT8 : Blk w8 hb t_heap_Heap (cfgL c ++ geoC c ++ [ptr p.ab, ptr p.rb, ptr p.ob, ptr p.cb, ptr p.qb, ptr p.sb, ptr p.mb, .slice ra p.bs.length rc, .slice (some ⟨p.bf, 0, none⟩) c.c3.toNat c.c3.toNat]) := by
          have := H8.tab; unfold heapL at this; rw [hr] at this; exact this
        refine Sd_intro hT8 ?_
        refine LdC_blk hT8 rfl ?_
        have hBN := buffer_New_spec ((k : Int) * P c) ((k : Int) * P c + P c) w8 hkP0 (by omega) (by omega)
        rw [← ew] at hBN
        refine CallC_intro hBN (fun v w9 ⟨hv, f9⟩ => ?_)
        rw [ew] at hv
        subst hv
        have H9 := H8.mv (Mv.of (S := fun _ => False) f9) (fun _ _ => id)
        have hx9 : (s.bufs.set t.toNat (0, 0))[t.toNat]? = some ((0 : Int), (0 : Int)) := List.getElem?_set_self tl
        have hbl9 : (bufL (s.bufs.set t.toNat (0, 0))).length = 2 * s.bufs.length := by
          rw [bufL_len, List.length_set]
        refine StN_idx (vs := [.int .i64 ((k : Int) * P c), .int .i64 ((k : Int) * P c + P c)]) H9.bufr rfl (show 0 + t.toNat * 2 + 2 ≤ (bufL (s.bufs.set t.toNat (0, 0))).length by rw [hbl9]; omega) (fun w10 h10 f10 _ => ?_)
        have h10 : Blk w10 p.bf t_buffer_Buffer (bufSet (bufL (s.bufs.set t.toNat (0, 0))) (0 + t.toNat * 2) ((k : Int) * P c) ((k : Int) * P c + P c)) := h10
        rw [bufL_both hx9, List.set_set] at h10
        have m10 : Mv z z (· = 10) w9 w10 := Mv.ofZ f10 (fun k _ e => by rw [e]; exact H9.bufz)
        have H10 := H9.setBuf m10 h10 (by rw [List.length_set]; exact hbl)
        have hx10 : (s.bufs.set t.toNat ((k : Int) * P c, (k : Int) * P c + P c))[t.toNat]? = some ((k : Int) * P c, (k : Int) * P c + P c) := List.getElem?_set_self tl
        have TK := Take_spec n w10 (H10.buf hx10) ⟨hkP0, (show (k : Int) * P c ≤ 4194304 by omega), (show 0 ≤ (k : Int) * P c + P c by omega), (show (k : Int) * P c + P c ≤ 4194304 by omega)⟩ hn (show n ≤ (k : Int) * P c + P c - (k : Int) * P c by omega)
        rw [ea] at TK
        refine CallC_intro TK (fun v w11 ⟨hv, hB11, f11⟩ => ?_)
        subst hv
        have hB11 := hB11.blk
        have hB11 : Blk w11 p.bf t_buffer_Buffer ((bufL (s.bufs.set t.toNat ((k : Int) * P c, (k : Int) * P c + P c))).set (0 + t.toNat * 2) (.int .i64 ((k : Int) * P c + n))) := hB11
        rw [bufL_set1 hx10, List.set_set] at hB11
        have m11 : Mv z z (· = 10) w10 w11 := Mv.ofZ f11 (fun k _ e => by rw [e]; exact H10.bufz)
        have H11 := H10.setBuf m11 hB11 (by rw [List.length_set]; exact hbl)
        have mm11 : Mv z z (fun i => i = 3 ∨ i = 10) w w11 := ((mm8.no f9).trans m10 (fun _ e => e) (fun _ e => .inr e)).trans m11 (fun _ e => e) (fun _ e => .inr e)
        exact ⟨true, (k : Int) * P c, _, rfl, .claim k y hlt (by omega) hk y0 hfirst, H11, mm11⟩
      · have H6 := H5.setRegs m6 ⟨rr, hR6, zrb, zrr⟩ hrl
        exact ⟨false, 0, _, rfl, .full hlt (by omega) hall, H6, mm6⟩
    · have g : ¬ x.1 < x.2 := g
      have ers : s.rs = rsDrop c x s.rs := by unfold rsDrop; rw [if_neg g]
      obtain ⟨w4, hw4⟩ : ∃ w4, w4 = w3 := ⟨w3, rfl⟩
      have H4 : HeapAt w4 z c hb p ((s.regs (rsDrop c x s.rs)).buf (s.bufs.set t.toNat (0, 0))) := by rw [← ers, hw4]; exact H3
      have mm4 : Mv z z (fun i => i = 3 ∨ i = 10) w w4 := by rw [hw4]; exact mm3
      rw [← hw4]
      have hT4 : Blk w4 hb t_heap_Heap (cfgL c ++ geoC c ++ [ptr p.ab, ptr p.rb, ptr p.ob, ptr p.cb, ptr p.qb, ptr p.sb, ptr p.mb, .slice ra p.bs.length rc, .slice (some ⟨p.bf, 0, none⟩) c.c3.toNat c.c3.toNat]) := by
        have := H4.tab; unfold heapL at this; rw [hr] at this; exact this
      obtain ⟨rr, hR4, zrb, zrr⟩ := H4.regs
      have hR4 : IsReg w4 p.rb rr (P c) (rsDrop c x s.rs) := hR4
      have hrl : ((rsDrop c x s.rs).length : Int) = c.c1 := by rw [rsDrop_len]; exact h.rsl
      refine AnyC_plan T_ok mixed (planL [0,1,2,3,6,7,8,9,10,1004,5,11]) (Old w4.drew) (by kernel_rfl) (by kernel_rfl) (fun _ _ => rfl) (Kp ?_)
      refine LdS_blk (hT4.keep (Fr.drew w4) id) rfl ?_
      refine LdS_blk (hT4.keep (Fr.drew w4) id) rfl ?_
      refine ⟨?_, trivial⟩
      refine CallC_intro (region_List_spec 1 w4.drew (hR4.keep (Fr.drew w4) id id)) (fun v w5 ⟨o5, f5⟩ => ?_)
      obtain ⟨a5, c5, rfl⟩ := own_slice o5
      refine Sd_intro f5.old ?_
      have f45 := (Fr.drew w4).no f5
      have H5 := H4.mv (Mv.of (S := fun _ => False) f45) (fun _ _ => id)
      have mm5 := mm4.no f45
      refine Br_dec (fun gy => ?_) (fun gy => ?_)
      · have gy : ((idxs 1 (rsDrop c x s.rs) (rsDrop c x s.rs).length).length : Int) ≥ c.c7 := gy
        exact ⟨false, 0, _, rfl, .young hlt gy, H5, mm5⟩
      have gy : ¬ ((idxs 1 (rsDrop c x s.rs) (rsDrop c x s.rs).length).length : Int) ≥ c.c7 := gy
      have hT5 := hT4.keep f45 id
      have hR5 := hR4.keep f45 id id
      refine LdC_blk hT5 rfl ?_
      refine CallC_intro (Claim_spec 1 w5 hR5 ⟨by decide, by decide⟩) (fun v w6 ⟨rs', hc, hR6, f6⟩ => ?_)
      have m6 : Mv z z (· = 3) w5 w6 := Mv.ofZ f6 (fun k _ e => by rw [e]; exact zrr)
      have mm6 : Mv z z (fun i => i = 3 ∨ i = 10) w w6 := mm5.trans m6 (fun _ e => e) (fun _ e => .inl e)
      rcases hc with ⟨k, y, hk, y0, hfirst, rfl, rfl⟩ | ⟨hall, rfl, rfl⟩
      · have hkl : k < (rsDrop c x s.rs).length := (List.getElem?_eq_some_iff.1 hk).1
        have hkP : (k : Int) * P c + P c ≤ c.c1 * P c := by
          have : ((k : Int) + 1) * P c ≤ c.c1 * P c := Int.mul_le_mul_of_nonneg_right (by omega) (by omega)
          rw [Int.add_mul, Int.one_mul] at this; exact this
        have hkP0 : 0 ≤ (k : Int) * P c := Int.mul_nonneg (by omega) (by omega)
        have hrl6 : (((rsDrop c x s.rs).set k (1, y.2)).length : Int) = c.c1 := by rw [List.length_set]; exact hrl
        have H6 := H5.setRegs m6 ⟨rr, hR6, zrb, zrr⟩ hrl6
        have hT6 : Blk w6 hb t_heap_Heap (cfgL c ++ geoC c ++ [ptr p.ab, ptr p.rb, ptr p.ob, ptr p.cb, ptr p.qb, ptr p.sb, ptr p.mb, .slice ra p.bs.length rc, .slice (some ⟨p.bf, 0, none⟩) c.c3.toNat c.c3.toNat]) := by
          have := H6.tab; unfold heapL at this; rw [hr] at this; exact this
        refine LdN_blk (vs := geoC c) hT6 rfl rfl ?_
        refine CallC_intro (Base_spec (c.c1 * P c) (Q c) c.c1 (c.c1 * P c / Q c) (min 1048576 (c.c1 * P c - P c)) (k : Int) c.c0.toNat (by omega) (show c.c1 * P c ≤ 4194304 by omega) w6) (fun v w7 ⟨hv, f7⟩ => ?_)
        rw [if_neg (by omega)] at hv
        subst hv
        have H7 := H6.mv (Mv.of (S := fun _ => False) f7) (fun _ _ => id)
        have hT7 := hT6.keep f7 id
        have hR7 := hR6.keep f7 id id
        refine AnyC_plan T_ok mixed (planO [0,1,2,3,4,5,6,7,8,9,10,11,1012]) (fun w' => Blk w' hb t_heap_Heap (cfgL c ++ geoC c ++ [ptr p.ab, ptr p.rb, ptr p.ob, ptr p.cb, ptr p.qb, ptr p.sb, ptr p.mb, .slice ra p.bs.length rc, .slice (some ⟨p.bf, 0, none⟩) c.c3.toNat c.c3.toNat])) (by kernel_rfl) (by kernel_rfl) (hT7.keep (Fr.drew w7) id) (Kp ?_)
        refine LdS_of (fun w' hw => hw) rfl ?_
        refine LdS_of (fun w' hw => hw) rfl ?_
        refine ⟨?_, trivial⟩
        have ew : IntKind.i64.wrap ((k : Int) * P c + P c) = (k : Int) * P c + P c := wrap_i64 (by omega) (by omega)
        have f7d := f7.no (Fr.drew w7)
        have H7d := H6.mv (Mv.of (S := fun _ => False) f7d) (fun _ _ => id)
        have hR7d := hR6.keep f7d id id
        have hST := SetTop_spec (k : Int) ((k : Int) * P c + P c) w7.drew hR7d
        rw [← ew] at hST
        refine CallC_intro hST (fun v w8 ⟨hv, hR8, f8⟩ => ?_)
        rw [ew] at hR8
        subst hv
        have eST : (setTopF (P c) (k : Int) ((k : Int) * P c + P c) ((rsDrop c x s.rs).set k (1, y.2))).2 = (rsDrop c x s.rs).set k (1, P c, y.2.2) := by
          have e1 : rget ((rsDrop c x s.rs).set k (1, y.2)) (k : Int) = some (1, y.2) := by
            unfold rget
            rw [if_pos (by omega), Int.toNat_natCast, List.getElem?_set_self hkl]
          unfold setTopF
          rw [e1]
          simp only
          rw [if_neg (by rw [Int.add_mul, Int.one_mul]; omega), if_pos (by unfold plainP; decide), Int.toNat_natCast, List.set_set]
          show (rsDrop c x s.rs).set k ((1 : Int), (k : Int) * P c + P c - (k : Int) * P c, y.2.2) = _
          rw [show (k : Int) * P c + P c - (k : Int) * P c = P c by omega]
        rw [eST] at hR8
        have m8 : Mv z z (· = 3) w7.drew w8 := Mv.ofZ f8 (fun k _ e => by rw [e]; exact zrr)
        have H8 := H7d.setRegs m8 ⟨rr, hR8, zrb, zrr⟩ (by rw [List.length_set]; exact hrl)
        have mm8 : Mv z z (fun i => i = 3 ∨ i = 10) w w8 := (mm6.no f7d).trans m8 (fun _ e => e) (fun _ e => .inl e)
        have hT8 : Blk w8 hb t_heap_Heap (cfgL c ++ geoC c ++ [ptr p.ab, ptr p.rb, ptr p.ob, ptr p.cb, ptr p.qb, ptr p.sb, ptr p.mb, .slice ra p.bs.length rc, .slice (some ⟨p.bf, 0, none⟩) c.c3.toNat c.c3.toNat]) := by
          have := H8.tab; unfold heapL at this; rw [hr] at this; exact this
        refine Sd_intro hT8 ?_
        refine LdC_blk hT8 rfl ?_
        have hBN := buffer_New_spec ((k : Int) * P c) ((k : Int) * P c + P c) w8 hkP0 (by omega) (by omega)
        rw [← ew] at hBN
        refine CallC_intro hBN (fun v w9 ⟨hv, f9⟩ => ?_)
        rw [ew] at hv
        subst hv
        have H9 := H8.mv (Mv.of (S := fun _ => False) f9) (fun _ _ => id)
        have hx9 : (s.bufs.set t.toNat (0, 0))[t.toNat]? = some ((0 : Int), (0 : Int)) := List.getElem?_set_self tl
        have hbl9 : (bufL (s.bufs.set t.toNat (0, 0))).length = 2 * s.bufs.length := by
          rw [bufL_len, List.length_set]
        refine StN_idx (vs := [.int .i64 ((k : Int) * P c), .int .i64 ((k : Int) * P c + P c)]) H9.bufr rfl (show 0 + t.toNat * 2 + 2 ≤ (bufL (s.bufs.set t.toNat (0, 0))).length by rw [hbl9]; omega) (fun w10 h10 f10 _ => ?_)
        have h10 : Blk w10 p.bf t_buffer_Buffer (bufSet (bufL (s.bufs.set t.toNat (0, 0))) (0 + t.toNat * 2) ((k : Int) * P c) ((k : Int) * P c + P c)) := h10
        rw [bufL_both hx9, List.set_set] at h10
        have m10 : Mv z z (· = 10) w9 w10 := Mv.ofZ f10 (fun k _ e => by rw [e]; exact H9.bufz)
        have H10 := H9.setBuf m10 h10 (by rw [List.length_set]; exact hbl)
        have hx10 : (s.bufs.set t.toNat ((k : Int) * P c, (k : Int) * P c + P c))[t.toNat]? = some ((k : Int) * P c, (k : Int) * P c + P c) := List.getElem?_set_self tl
        have TK := Take_spec n w10 (H10.buf hx10) ⟨hkP0, (show (k : Int) * P c ≤ 4194304 by omega), (show 0 ≤ (k : Int) * P c + P c by omega), (show (k : Int) * P c + P c ≤ 4194304 by omega)⟩ hn (show n ≤ (k : Int) * P c + P c - (k : Int) * P c by omega)
        rw [ea] at TK
        refine CallC_intro TK (fun v w11 ⟨hv, hB11, f11⟩ => ?_)
        subst hv
        have hB11 := hB11.blk
        have hB11 : Blk w11 p.bf t_buffer_Buffer ((bufL (s.bufs.set t.toNat ((k : Int) * P c, (k : Int) * P c + P c))).set (0 + t.toNat * 2) (.int .i64 ((k : Int) * P c + n))) := hB11
        rw [bufL_set1 hx10, List.set_set] at hB11
        have m11 : Mv z z (· = 10) w10 w11 := Mv.ofZ f11 (fun k _ e => by rw [e]; exact H10.bufz)
        have H11 := H10.setBuf m11 hB11 (by rw [List.length_set]; exact hbl)
        have mm11 : Mv z z (fun i => i = 3 ∨ i = 10) w w11 := ((mm8.no f9).trans m10 (fun _ e => e) (fun _ e => .inr e)).trans m11 (fun _ e => e) (fun _ e => .inr e)
        exact ⟨true, (k : Int) * P c, _, rfl, .claim k y hlt (by omega) hk y0 hfirst, H11, mm11⟩
      · have H6 := H5.setRegs m6 ⟨rr, hR6, zrb, zrr⟩ hrl
        exact ⟨false, 0, _, rfl, .full hlt (by omega) hall, H6, mm6⟩
  · have TS := Take_spec n w1.drew B1 ⟨hxb.1, hxb.2.1, hxb.2.2.1, hxb.2.2.2⟩ hn hge
    rw [ea] at TS
    refine CallC_intro TS (fun v w2 ⟨hv, hB2, f2⟩ => ?_)
    subst hv
    have hB2 := hB2.blk
    rw [bufL_set1 hx] at hB2
    have m2 : Mv z z (· = 10) w1.drew w2 := Mv.ofZ f2 (fun k _ e => by rw [e]; exact H1.bufz)
    have H2 := H1.setBuf m2 hB2 (by rw [List.length_set]; exact hbl)
    exact ⟨true, x.1, _, rfl, .take hge, H2, (Mv.of (S := fun _ => False) f1d).trans m2 (fun _ e => e.elim) (fun _ e => .inr e)⟩
end Go.Proofs.Ythmkimnpdnmahaa
