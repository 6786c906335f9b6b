/- Law HeapFrees. -/
import Derived.Test.YtdhbpklmkibmbaaGreatDoorFreeW
namespace Go.Proofs.YtdhbpklmkibmbaaGreatDoor
open Go.Vc

theorem clr_has {n per r : Int} {A : Abs} (hr : 0 ≤ r ∧ r < n) (h c : Int) : hasA n per (clearA n A r) h c = (hasA n per A h c && !decide (h = r)) := by
  unfold clearA inR
  rw [decide_eq_true hr, if_pos rfl]
  unfold hasA
  split
  · unfold dropA
    by_cases e : h = r
    · rw [if_pos (decide_eq_true e), decide_eq_true e]
      show decide (c ∈ ([] : List Int)) = _
      simp
    · rw [if_neg (by simpa using e), decide_eq_false e]; simp
  · simp
theorem scr_has {n per r : Int} {A : Abs} (hr : 0 ≤ r ∧ r < n) (h c : Int) : hasA n per (scrubA n A r) h c = (hasA n per A h c && !decide (c / per = r)) := by
  unfold scrubA inR
  rw [decide_eq_true hr, if_pos rfl]
  unfold hasA
  split
  · unfold dropA
    by_cases e : c / per = r
    · rw [if_pos (decide_eq_true e), decide_eq_true e]
      show decide (c ∈ ([] : List Int)) = _
      simp
    · rw [if_neg (by simpa using e), decide_eq_false e]; simp
  · simp
theorem cards_freed {n per r : Int} {A : Abs} (hr : 0 ≤ r ∧ r < n) : cardsA n per (scrubA n (clearA n A r) r) r = [] := by
  unfold cardsA
  rw [List.filter_eq_nil_iff]
  intro x _
  rw [scr_has hr, clr_has hr, decide_eq_true rfl]
  simp
theorem cards_other {n per r k x : Int} {A : Abs} (hr : 0 ≤ r ∧ r < n) (h : x ∈ cardsA n per (scrubA n (clearA n A r) r) k) : (0 ≤ x ∧ x < n * per) ∧ x / per ≠ r := by
  unfold cardsA at h
  obtain ⟨h1, h2⟩ := List.mem_filter.1 h
  refine ⟨rng_mem.1 h1, fun e => ?_⟩
  rw [scr_has hr, decide_eq_true e] at h2
  simp at h2
theorem over_buf0 {l : List (Int × Int)} {a : Int × Int} (h : l[0]? = some a) (x y : Int) : over (bufL l) (0 + 0 * 2) [.int .i64 x, .int .i64 y] = bufL (l.set 0 (x, y)) := by
  cases l with
  | nil => cases h
  | cons b l => simp [over, bufL]
theorem retF_zero (c : Cfg) (n : Nat) (rs : List R) : retF c (List.replicate n (0, 0)) rs = rs := by
  induction n with
  | zero => rfl
  | succ n ih =>
    rw [List.replicate_succ]
    show retF c (List.replicate n (0, 0)) (rsDrop c (0, 0) rs) = rs
    have : rsDrop c (0, 0) rs = rs := by
      unfold rsDrop
      rw [if_neg (by decide)]
    rw [this, ih]
/-- What Free answers, in one. -/
theorem Free_any {w : World} {z : Nat → Nat} {c : Cfg} {hb : Nat} {p : HP} {s : HS} (r : Int) (h : HeapAt w z c hb p s) (hr : 0 ≤ r ∧ r < c.c1) : CallC Pr f_heap_Heap_Free [ptr hb, .int .i64 r] w (fun v w' => ∃ e s', v = .int .i64 e ∧ ((e = 5 ∧ stS s.rs r = 0 ∧ s' = s) ∨ (e = 0 ∧ stS s.rs r ≠ 0 ∧ Freed c r s s')) ∧ HeapAt w' z c hb p s' ∧ Mv z z (fun i => 3 ≤ i ∧ i ≤ 8) w w') := by
  by_cases hs : stS s.rs r = 0
  · refine CallC_mk (Calls.mono (CallC_elim (Free_none r w h hr hs)) fun e w' ⟨v, he, hv, h', m⟩ => ⟨v, he, 5, s, hv, .inl ⟨rfl, hs, rfl⟩, h', m.weak (fun _ e => by omega)⟩)
  · refine CallC_mk (Calls.mono (CallC_elim (Free_ok r w h hr hs)) fun e w' ⟨v, he, hv, s', h', fd, m⟩ => ⟨v, he, 0, s', hv, .inr ⟨rfl, hs, fd⟩, h', m⟩)
set_option maxHeartbeats 1000000 in
theorem heapFrees_spec {p : Pl} {v : Value} (r left : Int) (w : World) (hv : PlanV w p v) (hT : Tab64 w) : CallC Pr f_gleanerlaw14_HeapFrees [v, .int .i64 r, .int .i64 left] w (fun v w' => v = .bool true ∧ Fr No w w') := by
  obtain ⟨tv, hvv, rfl, hTh, hH⟩ := id hv
  obtain ⟨ta, tc, rfl, tl, _⟩ := id hTh
  obtain ⟨ha, hc, rfl, hl, _⟩ := id hH
  refine callU_sound T_ok fun_gleanerlaw14_HeapFrees rfl (by kernel_rfl) rfl (Kp ?_)
  refine NewC_blk (fun p3 w1 e_p3 q1 f1 s1 => ?_)
  have q1 : Blk w1 p3 t_gleanerref14_Plan (planL p (.slice ta p.ts.length tc) (.slice ha p.hs.length hc)) := q1
  refine Cut_no ?_
  refine CallC_intro (awake14_spec w1) (fun v w2 ⟨hv2, f2⟩ => ?_)
  subst hv2
  have q2 := q1.keep f2 id
  have F2 := f1.no f2
  have sz1 := f1.size
  have sz2 := f2.size
  refine Cut_no ?_
  refine LdN_blk (vs := planL p (.slice ta p.ts.length tc) (.slice ha p.hs.length hc)) (q2) rfl rfl ?_
  refine CallC_intro (Right_spec w2 (hv.keep F2)) (fun v w3 ⟨⟨ok, hv3, hok⟩, f3⟩ => ?_)
  subst hv3
  have q3 := q2.keep f3 id
  have F3 := F2.no f3
  have sz3 := f3.size
  cases ok with
  | false => exact ⟨rfl, F3⟩
  | true =>
  have hp := hok rfl
  have hV := hp.v
  have hP := P_le hV
  refine LdN_blk (vs := planL p (.slice ta p.ts.length tc) (.slice ha p.hs.length hc)) (q3) rfl rfl ?_
  refine CallC_intro (Build_spec w3 hp (hv.keep F3)) (fun v w4 ⟨hR, f4⟩ => ?_)
  have F4 := F3.no f4
  have sz4 := f4.size
  rcases hR with hR | ⟨wN, z4, hb, q, s, p7, av, at_, op, B, hR, hsz, B4, I4, U4⟩
  · subst hR
    refine NewC_blk (fun p9 w5 e_p9 q5 f5 s5 => ?_)
    refine StN_blk (q5) rfl (Nat.le_of_ble_eq_true rfl) (fun w6 q6 f6 s6 => ?_)
    refine Cut_no ?_
    exact ⟨rfl, (F4.no f5).new f6 (fun _ _ e => e) (fun k e => by omega)⟩
  subst hR
  obtain ⟨aa, ac, eav⟩ := own_slice B4.own
  subst eav
  refine NewC_blk (fun p9 w5 e_p9 q5 f5 s5 => ?_)
  refine StN_blk (q5) rfl (Nat.le_of_ble_eq_true rfl) (fun w6 q6 f6 s6 => ?_)
  have q6 : Blk w6 p9 t_gleanerlaw14_Built [ptr hb, .slice aa at_.length ac] := q6
  have f46 : Fr No w4 w6 := f5.new f6 (fun _ _ e => e) (fun k e => by omega)
  refine Cut_no ?_
  have B6 := B4.no f46
  have h6 := B6.h
  refine LdC_blk (q6) rfl ?_
  have t6 := h6.tab
  refine LdC_blk (t6) rfl ?_
  have r0 := hV.r0
  refine Sd_intro (show p.c.c1 ≠ 0 by omega) (Kp ?_)
  refine Sd_intro (show p.c.c1 ≠ 0 by omega) (Kp ?_)
  obtain ⟨x1, x2⟩ := ixN_in (x := r) (n := p.c.c1) (by omega) (by have := hV.r1; omega)
  obtain ⟨rr, hrr⟩ : ∃ rr, rr = ixN r p.c.c1 := ⟨_, rfl⟩
  rw [← hrr] at x1 x2
  have hI : (IntKind.i64.wrap (r.tmod p.c.c1 + p.c.c1)).tmod p.c.c1 = rr := hrr.symm
  refine LdC_blk (t6) rfl ?_
  obtain ⟨r6, hR6, _, _⟩ := h6.regs
  refine CallC_intro (R := fun v w' => v = .int .i64 (stS s.rs rr) ∧ Fr No w6 w') (by rw [hI]; exact State_any rr w6 hR6) (fun v w7 ⟨hv7, f7⟩ => ?_)
  subst hv7
  have t7 := t6.keep f7 id
  refine LdN_blk (vs := geoC p.c) (t7) rfl rfl ?_
  refine CallC_intro (R := fun v w' => v = .tuple #[.int .i64 (rr * P p.c), .int .i64 0] ∧ Fr No w7 w') (by
    rw [hI]
    have := Base_C hV rr w7
    rw [if_neg (by omega)] at this
    exact this) (fun v w8 ⟨hv8, f8⟩ => ?_)
  subst hv8
  have f68 := f7.no f8
  have h8 := h6.no f68
  have t8 := h8.tab
  have hm := row_mul hV x1 x2
  refine LdC_blk (t8) rfl ?_
  obtain ⟨mr, hM, zm, zmr⟩ := h8.marks
  refine CallC_intro (Put_spec (rr * P p.c) w8 hM (by omega) (by omega)) (fun v w9 ⟨hv9, hM9, f9⟩ => ?_)
  subst hv9
  have m9 : Mv z4 z4 (· = 8) w8 w9 := Mv.ofZ f9 (fun k _ e => by rw [e]; exact zmr)
  have h9 := h8.setMarks m9 ⟨mr, hM9, zm, zmr⟩
  have t9 := h9.tab
  have D9 : Fr No w9 w9.drew := Fr.drew w9
  refine AnyC_plan T_ok mixed (planO [0,1,2,3,4,5,6,7,8,1009,1010]) ((fun w' => Blk w' hb t_heap_Heap (heapL p.c q))) (by kernel_rfl) (by kernel_rfl) ((t9.keep (Fr.drew _) id)) (Kp ?_)
  refine LdS_of (fun w' hw => hw) rfl (Kp ?_)
  refine LdSN_of (vs := geoC p.c) (fun w' hw => hw) rfl rfl (Kp ?_)
  refine ⟨Kp ?_, trivial⟩
  refine CallC_intro (Card_C hV (rr * P p.c) _) (fun v wa ⟨hva, fa⟩ => ?_)
  obtain ⟨c1, c2⟩ := card_lo hV rr
  obtain ⟨c3, _⟩ := card_lo hV p.c.c1
  obtain ⟨m, em⟩ : ∃ m, m = P p.c / Q p.c := ⟨_, rfl⟩
  have m0 : 1 ≤ m := by rw [em]; exact (Int.le_ediv_iff_mul_le (by omega)).2 (by omega)
  have hrm : 0 ≤ rr * m := Int.mul_nonneg x1 (by omega)
  have hcm : rr * m + m ≤ p.c.c1 * m := by
    have := Int.mul_le_mul_of_nonneg_right (show rr + 1 ≤ p.c.c1 by omega) (show 0 ≤ m by omega)
    rw [Int.add_mul, Int.one_mul] at this
    exact this
  have hcb : p.c.c1 * m ≤ 4096 := by
    have : p.c.c1 * P p.c / Q p.c ≤ p.c.c1 * P p.c := Int.ediv_le_self _ (by omega)
    rw [c3, ← em] at this
    have := hp.words
    omega
  rw [← em] at c1 c2 c3
  have ec : cardC p.c (rr * P p.c) = rr * m := by
    unfold cardC
    rw [if_neg (by omega)]; exact c1
  rw [ec] at hva
  subst hva
  have ga := D9.no fa
  refine Sd_intro (t9.keep ga id) (Kp ?_)
  refine ⟨Kp ?_, trivial⟩
  have ha9 := h9.no ga
  obtain ⟨cb, cr, hCd, zt, zb', zr'⟩ := ha9.cards
  refine CallC_intro (Dirty_spec (rr * m) wa hCd hrm (by rw [c3]; omega)) (fun v wb ⟨_, hCb, fb⟩ => ?_)
  have mb : Mv z4 z4 (· = 5) wa wb := Mv.ofZ fb (fun k _ e => by rw [e]; exact zr')
  have hb10 := ha9.setCards mb ⟨cb, cr, hCb, zt, zb', zr'⟩
  refine Sd_intro hb10.tab (Kp ?_)
  obtain ⟨s10, es10⟩ : ∃ s10 : HS, s10 = { s with marks := bput s.marks (rr * P p.c).toNat, cards := bput s.cards (rr * m).toNat } := ⟨_, rfl⟩
  have h10 : HeapAt wb z4 p.c hb q s10 := by rw [es10]; exact hb10
  have e10 : s10.rs = s.rs ∧ s10.back = s.back ∧ s10.bufs = s.bufs := by rw [es10]; exact ⟨rfl, rfl, rfl⟩
  have M10 : Mv z4 z4 (fun i => 3 ≤ i ∧ i ≤ 8) w6 wb := (((Mv.of (S := fun i => 3 ≤ i ∧ i ≤ 8) f68).same (m9.weak (fun _ e => by omega))).no ga).same (mb.weak (fun _ e => by omega))
  refine CallC_intro (R := fun v w' => ∃ e s', v = .int .i64 e ∧ ((e = 5 ∧ stS s10.rs rr = 0 ∧ s' = s10) ∨ (e = 0 ∧ stS s10.rs rr ≠ 0 ∧ Freed p.c rr s10 s')) ∧ HeapAt w' z4 p.c hb q s' ∧ Mv z4 z4 (fun i => 3 ≤ i ∧ i ≤ 8) wb w') (by rw [hI]; exact Free_any rr h10 ⟨x1, x2⟩) (fun v wc ⟨e, s', hvc, hcase, hc11, mc⟩ => ?_)
  subst hvc
  have M11 := M10.same mc
  have hrl := h10.rsl
  have st0 : stS s'.rs rr = 0 := by
    rcases hcase with ⟨_, h, e⟩ | ⟨_, _, fd⟩
    · rw [e]; exact h
    · rw [fd.rs, stS_set (by omega)]
      rw [if_pos (by omega)]
  have hst : stS s.rs rr = stS s10.rs rr := by rw [e10.1]
  refine Cut_no ?_
  refine Br_intro (fun g => ?_) (fun _ => ?_)
  · exfalso
    have g : (decide (e = 5) != decide (stS s.rs rr = 0)) = true := g
    rw [hst] at g
    rcases hcase with ⟨e5, h, _⟩ | ⟨e0, h, _⟩
    · rw [decide_eq_true e5, decide_eq_true h] at g; cases g
    · rw [decide_eq_false (by omega), decide_eq_false h] at g; cases g
  have t11 := hc11.tab
  refine LdC_blk (t11) rfl ?_
  obtain ⟨r11, hR11, _, _⟩ := hc11.regs
  refine CallC_intro (R := fun v w' => v = .int .i64 0 ∧ Fr No wc w') (by
    rw [hI]
    have := State_any rr wc hR11
    rw [st0] at this
    exact this) (fun v wd ⟨hvd, fd⟩ => ?_)
  subst hvd
  have h12 := hc11.no fd
  refine CallC_intro (Free_out p.c.c1 wd h12 (by omega)) (fun v we ⟨hve, h13, m13⟩ => ?_)
  subst hve
  have M13 : Mv z4 z4 (fun i => 3 ≤ i ∧ i ≤ 8) w6 we := (M11.no fd).same (m13.weak (fun _ e => by omega))
  have F13 : Fr No w we := (F4.no f46).trans M13.fr (fun _ _ e => e) (fun k hk e => by
    have := B4.zo k (by omega)
    omega)
  have hT13 : Tab64 we := hT.keep F13 (fun h => h)
  have hper : p.c.c1 * (P p.c / Q p.c) ≤ 1000000 := by rw [← em]; omega
  refine Cut (α := Unit) (fun _ => [(1, .int .i64 rr), (2, .int .i64 left), (10, ptr hb), (11, .int .i64 p.c.c1), (13, .int .i64 (rr * P p.c)), (15, .int .i64 e)]) (fun _ w' => Fr No we w') ?_ (fun _ wf ff => Kp ?_)
  · have t13 := h13.tab
    refine AnyC_plan T_ok mixed (planO [0,1,2,3,4,5,6,7,1008,9,10,11,12,13,14,15,16,17,18,1019,1020,21,22,23,24,25,26,27,1028,29,30,31,32]) ((fun w' => Blk w' hb t_heap_Heap (heapL p.c q))) (by kernel_rfl) (by kernel_rfl) ((t13.keep (Fr.drew _) id)) (Kp ?_)
    have Dd : Fr No we we.drew := Fr.drew we
    refine Br_dec (fun g => ?_) (fun g => ?_)
    · have g : e = 0 := g
      obtain ⟨hs0, fdd⟩ : stS s10.rs rr ≠ 0 ∧ Freed p.c rr s10 s' := by
        rcases hcase with ⟨e5, _⟩ | ⟨_, h1, h2⟩
        · omega
        · exact ⟨h1, h2⟩
      have St : ∀ {w'}, Fr No we w' → Blk w' hb t_heap_Heap (heapL p.c q) := fun f => t13.keep f id
      refine LdS_of (fun w' hw => hw) rfl (Kp ?_)
      refine ⟨Kp ?_, trivial⟩
      obtain ⟨mr2, hM2, _, _⟩ := (h13.no Dd).marks
      refine CallC_intro (Has_spec (rr * P p.c) _ hM2) (fun v wf ⟨hvf, ff⟩ => ?_)
      have eh : has s'.marks (rr * P p.c) = false := by
        unfold has
        rw [fdd.marks]
        unfold bfill
        rw [if_pos (by omega)]; simp
      rw [eh] at hvf
      subst hvf
      have gf := Dd.no ff
      refine Sd_intro (St gf) (Kp ?_)
      refine LdS_of (fun w' hw => hw) rfl (Kp ?_)
      refine LdSN_of (vs := geoC p.c) (fun w' hw => hw) rfl rfl (Kp ?_)
      refine ⟨Kp ?_, trivial⟩
      refine CallC_intro (Card_C hV (rr * P p.c) _) (fun v wg ⟨hvg, fg⟩ => ?_)
      rw [ec] at hvg
      subst hvg
      have gg := gf.no fg
      refine Sd_intro (St gg) (Kp ?_)
      refine ⟨Kp ?_, trivial⟩
      obtain ⟨cb2, cr2, hCd2, _, _, _⟩ := (h13.no gg).cards
      refine CallC_intro (Is_spec (rr * m) _ hCd2) (fun v wh ⟨hvh, fh⟩ => ?_)
      have ei : has s'.cards (rr * m) = false := by
        unfold has
        rw [fdd.cards, c1, c2, if_pos (by omega)]; simp
      rw [ei] at hvh
      subst hvh
      have gh := gg.no fh
      refine Sd_intro (St gh) (Kp ?_)
      refine LdS_of (fun w' hw => hw) rfl (Kp ?_)
      refine ⟨Kp ?_, trivial⟩
      refine CallC_intro (R := fun v w' => Own w' wh.heap.size v [] ∧ Fr No wh w') (by
        rw [hI]
        have := Cards_RS (per_cfg hV) rr (h13.no gh).sets (hT13.keep gh (fun h => h)) hper
        rw [fdd.sets, cards_freed ⟨x1, x2⟩] at this
        exact this) (fun v wi ⟨owni, fi⟩ => ?_)
      obtain ⟨la, lc, el⟩ := own_slice owni
      subst el
      have gi := gh.no fi
      refine Sd_intro (St gi) (Kp ?_)
      exact ⟨(), ⟨look_int rfl hI, rfl, rfl, rfl, rfl, rfl, trivial⟩, gi⟩
    · refine ⟨Kp ?_, trivial⟩
      refine ⟨Kp ?_, trivial⟩
      refine ⟨Kp ?_, trivial⟩
      refine ⟨Kp ?_, trivial⟩
      exact ⟨(), ⟨look_int rfl hI, rfl, rfl, rfl, rfl, rfl, trivial⟩, Dd⟩
  have hTf := hT13.keep ff (fun h => h)
  have hf := h13.no ff
  -- the sets
  refine Cut (α := Unit) (fun _ => [(2, .int .i64 left), (10, ptr hb), (13, .int .i64 (rr * P p.c)), (15, .int .i64 e)]) (fun _ w' => Fr No we w') ?_ (fun _ wg fg => Kp ?_)
  · refine LoopC_intro (α := Int) (fun k => [(1, .int .i64 rr), (2, .int .i64 left), (10, ptr hb), (11, .int .i64 p.c.c1), (13, .int .i64 (rr * P p.c)), (15, .int .i64 e), (16, .int .i64 k)])
      (fun n k w' => Fr No we w' ∧ 0 ≤ k ∧ k ≤ p.c.c1 ∧ n = (p.c.c1 - k).toNat)
      (p.c.c1 - 0).toNat 0 ⟨rfl, rfl, rfl, rfl, rfl, rfl, rfl, trivial⟩ ⟨ff, Int.le_refl _, (show (0 : Int) ≤ p.c.c1 by omega), rfl⟩ (fun n k wg hJ => Kp ?_)
    obtain ⟨fg, k0, k1, hn⟩ := hJ
    have k0 : 0 ≤ k := k0
    have k1 : k ≤ p.c.c1 := k1
    have hn : n = (p.c.c1 - k).toNat := hn
    refine Cut_no ?_
    refine Br_dec (fun g => ?_) (fun g => ?_)
    rotate_left
    · exact ⟨(), ⟨rfl, rfl, rfl, rfl, trivial⟩, fg⟩
    have g : k < p.c.c1 := g
    have hg13 := h13.no fg
    have tg := hg13.tab
    refine Cut_no ?_
    refine LdC_blk (tg) rfl ?_
    refine CallC_intro (Cards_RS (per_cfg hV) k hg13.sets (hT13.keep fg (fun h => h)) hper) (fun v wh ⟨ownh, fh⟩ => ?_)
    obtain ⟨L, eL⟩ : ∃ L, L = cardsA p.c.c1 (P p.c / Q p.c) s'.sets k := ⟨_, rfl⟩
    rw [← eL] at ownh
    obtain ⟨la, lc, el⟩ := own_slice ownh
    subst el
    have hLl : L.length ≤ 1000000 := by
      rw [eL]
      unfold cardsA
      have h1 := List.length_filter_le (hasA p.c.c1 (P p.c / Q p.c) s'.sets k) (rng (p.c.c1 * (P p.c / Q p.c)))
      have h2 : (rng (p.c.c1 * (P p.c / Q p.c))).length = (p.c.c1 * (P p.c / Q p.c)).toNat := by unfold rng; simp
      omega
    have gh := fg.no fh
    refine LoopC_intro (α := Int) (fun i => [(1, .int .i64 rr), (2, .int .i64 left), (10, ptr hb), (11, .int .i64 p.c.c1), (13, .int .i64 (rr * P p.c)), (15, .int .i64 e), (16, .int .i64 k), (17, .slice la L.length lc), (18, .int .i64 i)])
      (fun n i w' => Fr No wh w' ∧ 0 ≤ i ∧ i ≤ L.length ∧ n = (L.length - i).toNat)
      (L.length - 0 : Int).toNat 0 ⟨rfl, rfl, rfl, rfl, rfl, rfl, rfl, rfl, rfl, trivial⟩ ⟨Fr.refl _ _, Int.le_refl _, (show (0 : Int) ≤ L.length by omega), rfl⟩ (fun n' i wi hJ => Kp ?_)
    obtain ⟨fi, i0, i1, hn'⟩ := hJ
    have i0 : 0 ≤ i := i0
    have i1 : i ≤ (L.length : Int) := i1
    have hn' : n' = (L.length - i).toNat := hn'
    have gi := gh.no fi
    have r1 := hV.r1
    have out : (p.c.c1 - (k + 1)).toNat < n ∧ 0 ≤ k + 1 ∧ k + 1 ≤ p.c.c1 := by omega
    refine Cut_no ?_
    refine Br_dec (fun g2 => ?_) (fun g2 => ?_)
    rotate_left
    · refine ⟨(p.c.c1 - (k + 1)).toNat, _, out.1, ?_, k + 1, rfl, gi, out.2.1, out.2.2, rfl⟩
      exact ⟨rfl, rfl, rfl, rfl, rfl, rfl, look_int rfl (wrap_i64 (by omega) (by omega)), trivial⟩
    have g2 : i < (L.length : Int) := g2
    refine Br_dec (fun g3 => ?_) (fun g3 => ?_)
    rotate_left
    · refine ⟨(p.c.c1 - (k + 1)).toNat, _, out.1, ?_, k + 1, rfl, gi, out.2.1, out.2.2, rfl⟩
      exact ⟨rfl, rfl, rfl, rfl, rfl, rfl, look_int rfl (wrap_i64 (by omega) (by omega)), trivial⟩
    have g3 : e = 0 := g3
    obtain ⟨hs0, fdd⟩ : stS s10.rs rr ≠ 0 ∧ Freed p.c rr s10 s' := by
      rcases hcase with ⟨e5, _⟩ | ⟨_, h1, h2⟩
      · omega
      · exact ⟨h1, h2⟩
    have hil : i.toNat < L.length := by omega
    obtain ⟨cd, hcd⟩ : ∃ cd, cd = L[i.toNat]'hil := ⟨_, rfl⟩
    have hmem : cd ∈ L := by rw [hcd]; exact List.getElem_mem hil
    have hcdb : (0 ≤ cd ∧ cd < p.c.c1 * (P p.c / Q p.c)) ∧ cd / (P p.c / Q p.c) ≠ rr := by
      rw [eL, fdd.sets] at hmem
      exact cards_other ⟨x1, x2⟩ hmem
    obtain ⟨lx, rfl, hlx⟩ := (ownh.ints.keep fi (fun _ _ => id)).cell hil
    rw [← hcd] at hlx
    have ti := (h13.no gi).tab
    refine Cut_no ?_
    refine AnyC_plan T_ok mixed (planO [0,1,2,3,4,5,6,7,1008,9,10,11,12,13]) ((fun w' => Blk w' hb t_heap_Heap (heapL p.c q) ∧ w'.cell? (lx.add i.toNat) = some (.int .i64 cd))) (by kernel_rfl) (by kernel_rfl) (⟨ti.keep (Fr.drew _) id, cell_keep hlx (Fr.drew _)⟩) (Kp ?_)
    have Di : Fr No wi wi.drew := Fr.drew wi
    refine LdSN_of (vs := geoC p.c) (fun w' hw => hw.1) rfl rfl (Kp ?_)
    refine Sd_intro (show 0 ≤ i ∧ i < (L.length : Int) from ⟨i0, g2⟩) (Kp ?_)
    refine LdS_intro (v := .int .i64 cd) (fun w' hw => by rw [Nat.mul_one]; exact hw.2) (Kp ?_)
    refine ⟨Kp ?_, trivial⟩
    refine CallC_intro (First_C hV cd _) (fun v wj ⟨hvj, fj⟩ => ?_)
    have hm' : P p.c / Q p.c * Q p.c = P p.c := Int.ediv_mul_cancel (Int.dvd_of_emod_eq_zero (QP_dvd hV))
    rw [← em] at hcdb hm'
    rw [if_neg (by rw [c3]; omega)] at hvj
    subst hvj
    have gj := Di.no fj
    refine Sd_intro ⟨ti.keep gj id, cell_keep hlx gj⟩ (Kp ?_)
    have tj := ti.keep gj id
    refine LdN_blk (vs := geoC p.c) (tj) rfl rfl ?_
    refine CallC_intro (Region_C hV (cd * Q p.c) wj) (fun v wk ⟨hvk, fk⟩ => ?_)
    have hcq : 0 ≤ cd * Q p.c ∧ cd * Q p.c < p.c.c1 * P p.c := by
      refine ⟨Int.mul_nonneg hcdb.1.1 (by omega), ?_⟩
      have h1 : cd * Q p.c < p.c.c1 * m * Q p.c := Int.mul_lt_mul_of_pos_right hcdb.1.2 (by omega)
      rw [Int.mul_assoc, hm'] at h1
      exact h1
    have er : regC p.c (cd * Q p.c) = cd / m := by
      unfold regC
      rw [if_neg (by omega), ← card_reg hV (cd * Q p.c), Int.mul_ediv_cancel _ (by omega), ← em]
    rw [er] at hvk
    subst hvk
    refine Br_dec (fun g4 => ?_) (fun g4 => ?_)
    · exact absurd g4 hcdb.2
    refine ⟨(L.length - (i + 1)).toNat, _, by omega, ?_, i + 1, rfl, (fi.no gj).no fk, (show 0 ≤ i + 1 by omega), (show i + 1 ≤ (L.length : Int) by omega), rfl⟩
    exact ⟨rfl, rfl, rfl, rfl, rfl, rfl, rfl, rfl, look_int rfl (wrap_i64 (by omega) (by omega)), trivial⟩
  -- the offset of the first card
  have hg13 := h13.no fg
  have tg := hg13.tab
  have hm' : m * Q p.c = P p.c := by rw [em]; exact Int.ediv_mul_cancel (Int.dvd_of_emod_eq_zero (QP_dvd hV))
  have hbl : s'.back.length = (p.c.c1 * m).toNat := by
    rw [← c3]
    rcases hcase with ⟨_, _, e1⟩ | ⟨_, _, fdd⟩
    · rw [e1, e10.2.1]; exact B4.bl
    · rw [fdd.bl, e10.2.1]; exact B4.bl
  obtain ⟨x, hx⟩ : ∃ x, s'.back[(rr * m).toNat]? = some x := ⟨_, List.getElem?_eq_getElem (by omega)⟩
  have hlt : (rr * m).toNat < s10.back.length := by
    rw [e10.2.1]
    have := B4.bl
    rw [c3] at this
    omega
  have hxb : 0 ≤ x ∧ x ≤ 4294967295 := by
    have hb1 : ∀ y ∈ s10.back, 0 ≤ y ∧ y ≤ 4294967295 := by rw [e10.2.1]; exact B4.bb
    rcases hcase with ⟨_, _, e1⟩ | ⟨_, _, fdd⟩
    · rw [e1] at hx
      exact hb1 x (List.mem_of_getElem? hx)
    · rw [fdd.back _ hlt] at hx
      split at hx
      · injection hx with hx
        omega
      · exact hb1 x (List.mem_of_getElem? hx)
  have hx0 : e = 0 → x = 0 := fun e0 => by
    rcases hcase with ⟨e5, _⟩ | ⟨_, _, fdd⟩
    · omega
    · have hq : ((rr * m).toNat : Int) * Q p.c = rr * P p.c := by
        rw [show ((rr * m).toNat : Int) = rr * m by omega, Int.mul_assoc, hm']
      rw [fdd.back _ hlt, hq, if_pos (by omega)] at hx
      injection hx with hx
      exact hx.symm
  have Dg : Fr No wg wg.drew := Fr.drew wg
  refine AnyC_plan T_ok mixed (planO [0,1,2,3,4,5,6,7,8,1009,1010,11,12,13,14,15]) ((fun w' => Blk w' hb t_heap_Heap (heapL p.c q))) (by kernel_rfl) (by kernel_rfl) ((tg.keep (Fr.drew _) id)) (Kp ?_)
  refine LdS_of (fun w' hw => hw) rfl (Kp ?_)
  refine LdSN_of (vs := geoC p.c) (fun w' hw => hw) rfl rfl (Kp ?_)
  refine ⟨Kp ?_, trivial⟩
  refine CallC_intro (Card_C hV (rr * P p.c) _) (fun v wh ⟨hvh, fh⟩ => ?_)
  rw [ec] at hvh
  subst hvh
  have gh := Dg.no fh
  refine Sd_intro (tg.keep gh id) (Kp ?_)
  refine ⟨Kp ?_, trivial⟩
  obtain ⟨orr, hO, _, _⟩ := (hg13.no gh).offs
  refine CallC_intro (First_in (rr * m) x wh hO hrm hx hxb) (fun v wi ⟨hvi, fi⟩ => ?_)
  have hvi : ∃ A C : Int, v = .tuple #[.int .i64 A, .int .i64 C] ∧ (e = 0 → A = 0 ∧ C = 5) := by
    by_cases hx1 : x = 0
    · rw [if_pos hx1] at hvi
      exact ⟨_, _, hvi, fun _ => ⟨rfl, rfl⟩⟩
    · rw [if_neg hx1] at hvi
      exact ⟨_, _, hvi, fun h => absurd (hx0 h) hx1⟩
  obtain ⟨A, C, hvi, hAC⟩ := hvi
  subst hvi
  have gi := gh.no fi
  refine Sd_intro (tg.keep gi id) (Kp ?_)
  refine Cut (α := Unit) (fun _ => [(2, .int .i64 left), (10, ptr hb)]) (fun _ w' => Fr No we w') ?_ (fun _ wj fj => Kp ?_)
  · refine Br_dec (fun g => ?_) (fun g => ?_)
    · have g : e = 0 := g
      obtain ⟨hA, hC⟩ := hAC g
      refine Br_ndec (fun g1 => absurd hA g1) (fun _ => ?_)
      refine Br_ndec (fun g1 => absurd hC g1) (fun _ => ?_)
      exact ⟨(), ⟨rfl, rfl, trivial⟩, fg.no gi⟩
    · exact ⟨(), ⟨rfl, rfl, trivial⟩, fg.no gi⟩
  -- a region of eden, and a buffer in it
  have hj13 := h13.no fj
  have tj := hj13.tab
  refine LdC_blk (tj) rfl ?_
  obtain ⟨rj, hRj, zbj, zrj⟩ := hj13.regs
  have Fj : Fr No w wj := F13.no fj
  have big : ∀ k, (3 ≤ z4 k ∧ z4 k ≤ 10) → ¬ k < w.heap.size := fun k h1 h2 => by have := B4.zo k (by omega); omega
  refine CallC_intro (Claim_spec 1 wj hRj (by omega)) (fun v wk ⟨rs1, hcl, hRk, fk⟩ => ?_)
  have Fk : Fr No w wk := Fj.trans fk (fun _ _ e => e) (fun k hk e => big k (by rw [e, zrj]; decide) hk)
  rcases hcl with ⟨k, y, hy, hy0, _, hrs, hvk⟩ | ⟨_, hrs, hvk⟩
  rotate_left
  · subst hvk
    refine Cut_no ?_
    exact ⟨rfl, Fk⟩
  subst hvk
  have hrl' := hj13.rsl
  have hkl : k < s'.rs.length := (List.getElem?_eq_some_iff.1 hy).1
  have mk : Mv z4 z4 (· = 3) wj wk := Mv.ofZ fk (fun k _ e => by rw [e]; exact zrj)
  have hk13 := hj13.setRegs mk ⟨rj, hRk, zbj, zrj⟩ (by rw [hrs, List.length_set]; exact hrl')
  have tk := hk13.tab
  have hmk := row_mul hV (show (0 : Int) ≤ k by omega) (show (k : Int) < p.c.c1 by omega)
  refine Cut_no ?_
  refine LdN_blk (vs := geoC p.c) (tk) rfl rfl ?_
  refine CallC_intro (Base_C hV k wk) (fun v wl ⟨hvl, fl⟩ => ?_)
  rw [if_neg (by omega)] at hvl
  subst hvl
  have tl2 := tk.keep fl id
  refine AnyC_plan T_ok mixed (planO [0,1,2,3,4,5,6,7,8,9,10,11,12,13,14,15,16,17,18,19]) ((fun w' => Blk w' hb t_heap_Heap (heapL p.c q))) (by kernel_rfl) (by kernel_rfl) ((tl2.keep (Fr.drew _) id)) (Kp ?_)
  refine LdS_of (fun w' hw => hw) rfl (Kp ?_)
  refine Sd_intro (show P p.c ≠ 0 by omega) (Kp ?_)
  refine LdS_of (fun w' hw => hw) rfl (Kp ?_)
  refine LdS_of (fun w' hw => hw) rfl (Kp ?_)
  refine Sd_intro (show P p.c ≠ 0 by omega) (Kp ?_)
  obtain ⟨y1, y2⟩ := ixN_in (x := left) (n := P p.c) (by omega) (by omega)
  obtain ⟨lf, hlf⟩ : ∃ lf, lf = ixN left (P p.c) := ⟨_, rfl⟩
  rw [← hlf] at y1 y2
  have hL : (IntKind.i64.wrap (left.tmod (P p.c) + P p.c)).tmod (P p.c) = lf := hlf.symm
  have gl : Fr No wk wl.drew := fl.no (Fr.drew wl)
  have tl3 := tk.keep gl id
  refine AnyC_plan T_ok mixed (planO [0,1,2,3,4,5,6,7,8,9,10,11,1012]) ((fun w' => Blk w' hb t_heap_Heap (heapL p.c q))) (by kernel_rfl) (by kernel_rfl) ((tl3.keep (Fr.drew _) id)) (Kp ?_)
  refine LdS_of (fun w' hw => hw) rfl (Kp ?_)
  refine LdS_of (fun w' hw => hw) rfl (Kp ?_)
  refine ⟨Kp ?_, trivial⟩
  have gl2 : Fr No wk wl.drew.drew := gl.no (Fr.drew _)
  have hl13 := hk13.no gl2
  obtain ⟨rl, hRl, zbl, zrl⟩ := hl13.regs
  have eE : IntKind.i64.wrap (k * P p.c + P p.c) = k * P p.c + P p.c := wrap_i64 (by omega) (by omega)
  have hst := SetTop_spec k (k * P p.c + P p.c) wl.drew.drew hRl
  have eset : setTopF (P p.c) k (k * P p.c + P p.c) rs1 = (0, rs1.set k (1, P p.c, y.2.2)) := by
    unfold setTopF
    rw [hrs, rget_set hkl, if_pos rfl]
    dsimp only
    rw [if_neg (by rw [Int.add_mul, Int.one_mul]; omega), if_pos ⟨by decide, by decide⟩, show ((k : Int)).toNat = k by omega, show (k : Int) * P p.c + P p.c - k * P p.c = P p.c by omega]
  rw [eset] at hst
  rw [← eE] at hst
  refine CallC_intro hst (fun v wm ⟨_, hRm, fm⟩ => ?_)
  have mm : Mv z4 z4 (· = 3) wl.drew.drew wm := Mv.ofZ fm (fun k _ e => by rw [e]; exact zrl)
  have hm13 := hl13.setRegs mm ⟨rl, hRm, zbl, zrl⟩ (by rw [List.length_set, hrs, List.length_set]; exact hrl')
  have Fm : Fr No w wm := (Fk.no gl2).trans fm (fun _ _ e => e) (fun k hk e => big k (by rw [e, zrl]; decide) hk)
  have tm := hm13.tab
  refine Sd_intro tm (Kp ?_)
  refine LdC_blk (tm) rfl ?_
  have e39 : IntKind.i64.wrap (k * P p.c + lf) = k * P p.c + lf := wrap_i64 (by omega) (by omega)
  refine CallC_intro (R := fun v w' => v = .tuple #[.agg #[.int .i64 (k * P p.c + lf), .int .i64 (k * P p.c + P p.c)], .int .i64 0] ∧ Fr No wm w') (by
    rw [hL, e39, eE]
    exact buffer_New_spec _ _ wm (by omega) (by omega) (by omega)) (fun v wn ⟨hvn, fn⟩ => ?_)
  subst hvn
  refine NewC_blk (fun pb wo e_pb qo fo so => ?_)
  refine StN_blk (qo) rfl (Nat.le_of_ble_eq_true rfl) (fun wp qp fp sp => ?_)
  have qp : Blk wp pb t_buffer_Buffer [.int .i64 (k * P p.c + lf), .int .i64 (k * P p.c + P p.c)] := qp
  have fop : Fr No wm wp := (fn.no (fo.new fp (fun _ _ e => e) (fun k e => by omega)))
  have hp13 := hm13.no fop
  have tp := hp13.tab
  have Fp := Fm.no fop
  refine Cut_no ?_
  refine AnyC_plan T_ok mixed (planO [0,1,2,3,4,5,1006]) ((fun w' => Blk w' hb t_heap_Heap (heapL p.c q) ∧ Blk w' pb t_buffer_Buffer [.int .i64 (k * P p.c + lf), .int .i64 (k * P p.c + P p.c)])) (by kernel_rfl) (by kernel_rfl) (⟨tp.keep (Fr.drew _) id, qp.keep (Fr.drew _) id⟩) (Kp ?_)
  refine LdS_of (fun w' hw => hw.1) rfl (Kp ?_)
  refine LdSN_of (vs := [.int .i64 (k * P p.c + lf), .int .i64 (k * P p.c + P p.c)]) (fun w' hw => hw.2) rfl rfl (Kp ?_)
  have c3' := hp13.c3
  refine Sd_intro (show (0 : Int) ≤ 0 ∧ (0 : Int) < ((p.c.c3.toNat : Nat) : Int) by omega) (Kp ?_)
  have hpd := hp13.no (Fr.drew wp)
  have hbr := hpd.bufr
  have ebufs : s'.bufs = List.replicate p.c.c3.toNat (0, 0) := by
    rcases hcase with ⟨_, _, e1⟩ | ⟨_, _, fdd⟩
    · rw [e1, e10.2.2]; exact B4.bu
    · rw [fdd.same.2.2.1, e10.2.2]; exact B4.bu
  have hx0' : s'.bufs[0]? = some (0, 0) := by rw [ebufs, List.getElem?_replicate, if_pos (by omega)]
  refine ⟨Kp ?_, trivial⟩
  refine StN_idx (m := 0 * 2) hbr rfl (by have := bufL_len s'.bufs; rw [this, ebufs, List.length_replicate]; show 0 + 0 * 2 + 2 ≤ _; omega) (fun wq hbq fq sq => ?_)
  rw [over_buf0 hx0'] at hbq
  have mq : Mv z4 z4 (· = 10) wp.drew wq := Mv.ofZ fq (fun k _ e => by rw [e]; exact hpd.bufz)
  have hq := hpd.setBuf mq hbq (by rw [List.length_set]; exact hpd.bufl)
  have Fq : Fr No w wq := (Fp.no (Fr.drew wp)).trans fq (fun _ _ e => e) (fun k hk e => big k (by rw [e, hpd.bufz]; decide) hk)
  have nbf : pb ≠ q.bf := fun e => by
    have := hm13.bufr.lt
    have := fn.size
    omega
  refine Sd_intro ⟨hq.tab, (qp.keep (Fr.drew wp) id).keep fq nbf⟩ (Kp ?_)
  refine CallC_intro (Retire_spec wq hq (fun b hb1 hb2 => ?_)) (fun v wr ⟨_, hr13, mr13⟩ => ?_)
  · rcases List.mem_or_eq_of_mem_set hb1 with e1 | e1
    · have e2 : b = (0, 0) := by
        have e1 : b ∈ s'.bufs := e1
        rw [ebufs] at e1
        exact (List.mem_replicate.1 e1).2
      rw [e2] at hb2
      exact absurd hb2 (by decide)
    · rw [e1]
      exact ⟨by show 0 ≤ k * P p.c + lf; omega, by show k * P p.c + lf < p.c.c1 * P p.c; omega⟩
  have Fr13 : Fr No w wr := Fq.trans mr13.fr (fun _ _ e => e) (fun k hk e => big k (by omega) hk)
  have ert : retF p.c (s'.bufs.set 0 (k * P p.c + lf, k * P p.c + P p.c)) (rs1.set k (1, P p.c, y.2.2)) = (rs1.set k (1, P p.c, y.2.2)).set k (1, lf, y.2.2) := by
    have eb : s'.bufs.set 0 (k * P p.c + lf, k * P p.c + P p.c) = (k * P p.c + lf, k * P p.c + P p.c) :: List.replicate (p.c.c3.toNat - 1) (0, 0) := by
      rw [ebufs]
      obtain ⟨n, hn⟩ : ∃ n, p.c.c3.toNat = n + 1 := ⟨p.c.c3.toNat - 1, by omega⟩
      rw [hn, List.replicate_succ]; rfl
    rw [eb]
    show retF p.c (List.replicate (p.c.c3.toNat - 1) (0, 0)) (rsDrop p.c (k * P p.c + lf, k * P p.c + P p.c) (rs1.set k (1, P p.c, y.2.2))) = _
    rw [retF_zero]
    unfold rsDrop
    rw [if_pos (by show k * P p.c + lf < k * P p.c + P p.c; omega)]
    dsimp only
    rw [div_in (k := (k : Int)) (by omega) (by omega) (by omega)]
    unfold setTopF
    rw [rget_set (by rw [hrs, List.length_set]; exact hkl), if_pos rfl]
    dsimp only
    rw [if_neg (by rw [Int.add_mul, Int.one_mul]; omega), if_pos ⟨by decide, by decide⟩, show ((k : Int)).toNat = k by omega, show (k : Int) * P p.c + lf - k * P p.c = lf by omega]
  have tr := hr13.tab
  refine LdC_blk (tr) rfl ?_
  refine Sd_intro (show (0 : Int) ≤ 0 ∧ (0 : Int) < ((p.c.c3.toNat : Nat) : Int) by omega) (Kp ?_)
  have hBr := hr13.buf (t := 0) (x := (0, 0)) (by show (List.replicate p.c.c3.toNat ((0 : Int), (0 : Int)))[0]? = some (0, 0); rw [List.getElem?_replicate, if_pos (by omega)])
  refine CallC_intro (R := fun v w' => v = .int .i64 0 ∧ Fr No wr w') (Left_spec wr hBr) (fun v ws ⟨hvs, fs⟩ => ?_)
  subst hvs
  have ts := tr.keep fs id
  refine LdC_blk (ts) rfl ?_
  obtain ⟨rs', hRs, _, _⟩ := (hr13.no fs).regs
  refine CallC_intro (Top_any k ws hRs) (fun v wt ⟨hvt, ft⟩ => ?_)
  have et : topS (P p.c) (retF p.c (s'.bufs.set 0 (k * P p.c + lf, k * P p.c + P p.c)) (rs1.set k (1, P p.c, y.2.2))) k = k * P p.c + lf := by
    rw [ert, topS_set (by rw [List.length_set, hrs, List.length_set]; exact hkl), if_pos rfl]
  rw [et] at hvt
  subst hvt
  have ef : IntKind.i64.wrap (k * P p.c + (IntKind.i64.wrap (left.tmod (P p.c) + P p.c)).tmod (P p.c)) = k * P p.c + lf := by rw [hL, e39]
  refine ⟨?_, (Fr13.no fs).no ft⟩
  show Value.bool (decide (k * P p.c + lf = IntKind.i64.wrap (k * P p.c + (IntKind.i64.wrap (left.tmod (P p.c) + P p.c)).tmod (P p.c)))) = Value.bool true
  rw [ef, decide_eq_true rfl]
end Go.Proofs.YtdhbpklmkibmbaaGreatDoor
