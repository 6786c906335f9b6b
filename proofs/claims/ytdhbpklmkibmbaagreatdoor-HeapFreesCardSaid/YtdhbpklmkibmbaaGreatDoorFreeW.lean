/- A region is freed; buffers are dropped. -/
import Derived.Test.YtdhbpklmkibmbaaGreatDoorBuildX
namespace Go.Proofs.YtdhbpklmkibmbaaGreatDoor
open Go.Vc

theorem offs_Drop_spec {b r : Nat} {words card : Int} {back : List Int} (i j : Int) (w : World) (h : IsOffs w b r words card back) (h0 : 0 ≤ i) (h1 : i ≤ j) (h2 : j ≤ words) (hc : card ≤ 4194304) :
    CallC Pr f_offs_Table_Drop [.pointer (some ⟨b, 0, none⟩), .int .i64 i, .int .i64 j] w
      (fun v w' => v = .int .i64 0 ∧ (∃ bk, IsOffs w' b r words card bk ∧ bk.length = back.length ∧ (∀ k : Nat, k < back.length → bk[k]? = if i ≤ (k : Int) * card ∧ (k : Int) * card < j then some 0 else back[k]?)) ∧ Fr (· = r) w w') := by
  refine call_sound T_ok fun_offs_Table_Drop rfl (by kernel_rfl) rfl (Kp ?_)
  refine NewC_blk (fun b1 w1 e_b1 g1 f1 s1 => ?_)
  refine LdC_blk (g1) rfl ?_
  have h' := h.keep f1 id id
  refine CallC_intro (row_spec i j w1 h') (fun v w3 ⟨hv, f3⟩ => ?_)
  rw [if_neg (by omega)] at hv
  subst hv
  have g3 := g1.keep f3 id
  have h3 := h'.keep f3 id id
  refine LdC_blk (g3) rfl ?_
  have hr := h.row.lt
  have hb := h.tab.lt
  refine CallC_intro (cards_spec i j (fun _ => 0) w3 back h3 h0 h1 h2 hc (.inr rfl) (env := [.pointer (some ⟨b1, 0, none⟩)])
    (fun w5 bk k hI hF c0 c1 c2 c3 => Drop1_spec k w5 hI (g3.keep hF (by show ¬ b1 = r; omega)) c0 c1)) (fun v w4 ⟨bk, q1, q2, q3, q4⟩ => ?_)
  exact ⟨rfl, ⟨bk, q1, q2, q3⟩, (f1.no f3).noL q4⟩
section
variable {w w' : World} {z z' : Nat → Nat} {c : Cfg} {hb : Nat} {p : HP} {s : HS}
theorem HeapAt.setCards {C' : Nat → Bool} (h : HeapAt w z c hb p s) (m : Mv z z' (· = 5) w w') (hr : CardsIn w' z' 5 p.cb (c.c1 * P c / Q c) C') : HeapAt w' z' c hb p { s with cards := C' } := by
  have c3 := h.c3
  have hbl := h.bsl
  have h1 := h.tab.mv h.tabz m (by decide)
  have h2 := own_mv h.rootr h.rootz m (by decide)
  have h3 := h.bufr.mv h.bufz m (by decide)
  exact ⟨h.ok, h1.1, h1.2, h.arena.mv m (by decide), h.wsl, h.regs.mv m (by decide), h.rsl, h.offs.mv m (by decide), hr, h.queue.mv m (by decide) (fun t _ e => by omega), h.ownl, h.sets.mv m (by decide), h.marks.mv m (by decide), h2.1, h2.2, hbl, h.refl,
    fun t b l hb hl => (h.stacks t b l hb hl).mv m (fun e => by omega), h3.1, h3.2, h.bufl⟩
theorem HeapAt.setMarks {C' : Nat → Bool} (h : HeapAt w z c hb p s) (m : Mv z z' (· = 8) w w') (hr : MarksIn w' z' 8 p.mb (c.c1 * P c) C') : HeapAt w' z' c hb p { s with marks := C' } := by
  have c3 := h.c3
  have hbl := h.bsl
  have h1 := h.tab.mv h.tabz m (by decide)
  have h2 := own_mv h.rootr h.rootz m (by decide)
  have h3 := h.bufr.mv h.bufz m (by decide)
  exact ⟨h.ok, h1.1, h1.2, h.arena.mv m (by decide), h.wsl, h.regs.mv m (by decide), h.rsl, h.offs.mv m (by decide), h.cards.mv m (by decide), h.queue.mv m (by decide) (fun t _ e => by omega), h.ownl, h.sets.mv m (by decide), hr, h2.1, h2.2, hbl, h.refl,
    fun t b l hb hl => (h.stacks t b l hb hl).mv m (fun e => by omega), h3.1, h3.2, h.bufl⟩
/-- What a freed region leaves. -/
structure Freed (c : Cfg) (r : Int) (s s' : HS) : Prop where
  rs : s'.rs = s.rs.set r.toNat (0, 0, 0)
  sets : s'.sets = scrubA c.c1 (clearA c.c1 s.sets r) r
  bl : s'.back.length = s.back.length
  back : ∀ k : Nat, k < s.back.length → s'.back[k]? = if r * P c ≤ (k : Int) * Q c ∧ (k : Int) * Q c < r * P c + P c then some 0 else s.back[k]?
  cards : ∀ k : Nat, s'.cards k = if r * P c / Q c ≤ (k : Int) ∧ (k : Int) ≤ (r * P c + P c - 1) / Q c then false else s.cards k
  marks : s'.marks = bfill s.marks (r * P c) (r * P c + P c) false
  same : s'.ws = s.ws ∧ s'.refs = s.refs ∧ s'.bufs = s.bufs ∧ s'.common = s.common ∧ s'.own = s.own ∧ s'.acc = s.acc
theorem Free_out (r : Int) (w : World) (h : HeapAt w z c hb p s) (hr : ¬ (0 ≤ r ∧ r < c.c1)) : CallC Pr f_heap_Heap_Free [ptr hb, .int .i64 r] w (fun v w' => v = .int .i64 2 ∧ HeapAt w' z c hb p s ∧ Mv z z (· = 3) w w') := by
  obtain ⟨rr, hR, zb, zr⟩ := h.regs
  refine call_sound T_ok fun_heap_Heap_Free rfl (by kernel_rfl) rfl (Kp ?_)
  refine LdC_blk (h.tab) rfl ?_
  have e : releaseF r s.rs = (2, s.rs) := by
    unfold releaseF
    cases hx : rget s.rs r with
    | none => rfl
    | some x =>
      have := rget_some hx
      have := h.rsl
      omega
  refine CallC_intro (Release_spec r w hR) (fun v w1 ⟨hv, hR1, f1⟩ => ?_)
  rw [e] at hv hR1
  subst hv
  have m1 : Mv z z (· = 3) w w1 := Mv.ofZ f1 (fun k _ e => by rw [e]; exact zr)
  exact ⟨rfl, h.setRegs m1 ⟨rr, hR1, zb, zr⟩ h.rsl, m1⟩
theorem Free_none (r : Int) (w : World) (h : HeapAt w z c hb p s) (hr : 0 ≤ r ∧ r < c.c1) (hs : stS s.rs r = 0) : CallC Pr f_heap_Heap_Free [ptr hb, .int .i64 r] w (fun v w' => v = .int .i64 5 ∧ HeapAt w' z c hb p s ∧ Mv z z (· = 3) w w') := by
  obtain ⟨rr, hR, zb, zr⟩ := h.regs
  have hl := h.rsl
  refine call_sound T_ok fun_heap_Heap_Free rfl (by kernel_rfl) rfl (Kp ?_)
  refine LdC_blk (h.tab) rfl ?_
  have e : releaseF r s.rs = (5, s.rs) := by
    unfold releaseF
    cases hx : rget s.rs r with
    | none => have := rget_none hx; omega
    | some x =>
      have h1 := rget_some hx
      rw [stS_get h1.1 h1.2.2] at hs
      dsimp only
      rw [if_pos hs]
  refine CallC_intro (Release_spec r w hR) (fun v w1 ⟨hv, hR1, f1⟩ => ?_)
  rw [e] at hv hR1
  subst hv
  have m1 : Mv z z (· = 3) w w1 := Mv.ofZ f1 (fun k _ e => by rw [e]; exact zr)
  exact ⟨rfl, h.setRegs m1 ⟨rr, hR1, zb, zr⟩ h.rsl, m1⟩
theorem card_lo (hV : Valid c) (r : Int) : r * P c / Q c = r * (P c / Q c) ∧ (r * P c + P c - 1) / Q c = r * (P c / Q c) + P c / Q c - 1 := by
  have hP := P_le hV
  have hm : Q c * (P c / Q c) = P c := Int.mul_ediv_cancel' (Int.dvd_of_emod_eq_zero (QP_dvd hV))
  obtain ⟨m, em⟩ : ∃ m, m = P c / Q c := ⟨_, rfl⟩
  rw [← em] at hm ⊢
  have h1 : r * P c = r * m * Q c := by rw [← hm, Int.mul_assoc, Int.mul_comm m]
  refine ⟨by rw [h1]; exact Int.mul_ediv_cancel _ (by omega), ?_⟩
  refine div_in (by omega) ?_ ?_
  · rw [Int.sub_mul, Int.add_mul, ← h1, Int.one_mul, Int.mul_comm m, hm]; omega
  · rw [Int.sub_mul, Int.add_mul, ← h1, Int.one_mul, Int.mul_comm m, hm]; omega
theorem Free_ok (r : Int) (w : World) (h : HeapAt w z c hb p s) (hr : 0 ≤ r ∧ r < c.c1) (hs : stS s.rs r ≠ 0) : CallC Pr f_heap_Heap_Free [ptr hb, .int .i64 r] w (fun v w' => v = .int .i64 0 ∧ ∃ s', HeapAt w' z c hb p s' ∧ Freed c r s s' ∧ Mv z z (fun i => 3 ≤ i ∧ i ≤ 8) w w') := by
  obtain ⟨rr, hR, zb, zr⟩ := h.regs
  have hl := h.rsl
  have hV := h.ok
  have hP := P_le hV
  have hm := row_mul hV hr.1 hr.2
  refine call_sound T_ok fun_heap_Heap_Free rfl (by kernel_rfl) rfl (Kp ?_)
  refine LdC_blk (h.tab) rfl ?_
  have e : releaseF r s.rs = (0, s.rs.set r.toNat (0, 0, 0)) := by
    unfold releaseF
    cases hx : rget s.rs r with
    | none => have := rget_none hx; omega
    | some x =>
      have h1 := rget_some hx
      rw [stS_get h1.1 h1.2.2] at hs
      dsimp only
      rw [if_neg hs]
  refine CallC_intro (Release_spec r w hR) (fun v w1 ⟨hv, hR1, f1⟩ => ?_)
  rw [e] at hv hR1
  subst hv
  have m1 : Mv z z (· = 3) w w1 := Mv.ofZ f1 (fun k _ e => by rw [e]; exact zr)
  have h1 := h.setRegs m1 ⟨rr, hR1, zb, zr⟩ (by rw [List.length_set]; exact hl)
  have t1 := h1.tab
  refine LdN_blk (vs := geoC c) (t1) rfl rfl ?_
  refine CallC_intro (Base_C hV r w1) (fun v w2 ⟨hv, f2⟩ => ?_)
  rw [if_neg (by omega)] at hv
  subst hv
  have h2 := h1.no f2
  have t2 := h2.tab
  refine LdC_blk (t2) rfl ?_
  refine LdC_blk (t2) rfl ?_
  have eE : IntKind.i64.wrap (r * P c + P c) = r * P c + P c := wrap_i64 (by omega) (by omega)
  obtain ⟨orr, hO, zo1, zo2⟩ := h2.offs
  refine CallC_intro (R := fun v w' => v = .int .i64 0 ∧ (∃ bk, IsOffs w' p.ob orr (c.c1 * P c) (Q c) bk ∧ bk.length = s.back.length ∧ (∀ k : Nat, k < s.back.length → bk[k]? = if r * P c ≤ (k : Int) * Q c ∧ (k : Int) * Q c < r * P c + P c then some 0 else s.back[k]?)) ∧ Fr (· = orr) w2 w') (by rw [eE]; exact offs_Drop_spec _ _ _ hO (by omega) (by omega) (by omega) (by omega)) (fun v w3 ⟨_, ⟨bk, hO3, hbl, hbk⟩, f3⟩ => ?_)
  have m3 : Mv z z (· = 4) w2 w3 := Mv.ofZ f3 (fun k _ e => by rw [e]; exact zo2)
  have h3 := h2.setOffs m3 ⟨orr, hO3, zo1, zo2⟩
  have t3 := h3.tab
  refine LdC_blk (t3) rfl ?_
  refine CallC_intro (Clear_RS r h3.sets) (fun v w4 ⟨_, hS4, f4⟩ => ?_)
  have m4 : Mv z z (· = 7) w3 w4 := Mv.ofZ f4 (fun k _ e => e)
  have h4 := h3.setSets m4 hS4
  have t4 := h4.tab
  refine LdC_blk (t4) rfl ?_
  refine CallC_intro (Scrub_RS r h4.sets) (fun v w5 ⟨_, hS5, f5⟩ => ?_)
  have m5 : Mv z z (· = 7) w4 w5 := Mv.ofZ f5 (fun k _ e => e)
  have h5 := h4.setSets m5 hS5
  have t5 := h5.tab
  refine LdN_blk (vs := geoC c) (t5) rfl rfl ?_
  refine CallC_intro (Card_C hV (r * P c) w5) (fun v w6 ⟨hv, f6⟩ => ?_)
  have ec : cardC c (r * P c) = r * P c / Q c := by unfold cardC; rw [if_neg (by omega)]
  rw [ec] at hv
  subst hv
  have h6 := h5.no f6
  have M6 : Mv z z (fun i => 3 ≤ i ∧ i ≤ 8) w w6 := ((((m1.weak (fun _ e => by omega)).same ((Mv.of f2).same (m3.weak (U := fun i => 3 ≤ i ∧ i ≤ 8) (fun _ e => by omega)))).same (m4.weak (fun _ e => by omega))).same (m5.weak (fun _ e => by omega))).no f6
  obtain ⟨c1, c2⟩ := card_lo hV r
  obtain ⟨c3, _⟩ := card_lo hV c.c1
  obtain ⟨m, em⟩ : ∃ m, m = P c / Q c := ⟨_, rfl⟩
  have m0 : 1 ≤ m := by rw [em]; exact (Int.le_ediv_iff_mul_le (by omega)).2 (by omega)
  have hrm : 0 ≤ r * m := Int.mul_nonneg hr.1 (by omega)
  have hcm : r * m + m ≤ c.c1 * m := by
    have := Int.mul_le_mul_of_nonneg_right (show r + 1 ≤ c.c1 by omega) (show 0 ≤ m by omega)
    rw [Int.add_mul, Int.one_mul] at this
    exact this
  have hcb : c.c1 * m ≤ 4194304 := by
    have : c.c1 * P c / Q c ≤ c.c1 * P c := Int.ediv_le_self _ (by omega)
    rw [c3, ← em] at this
    omega
  rw [← em] at c1 c2 c3
  obtain ⟨s6, es6⟩ : ∃ s6 : HS, s6 = { s with rs := s.rs.set r.toNat (0, 0, 0), back := bk, sets := scrubA c.c1 (clearA c.c1 s.sets r) r } := ⟨_, rfl⟩
  have h6 : HeapAt w6 z c hb p s6 := by rw [es6]; exact h6
  have e6 : { s6 with cards := s.cards } = s6 := by rw [es6]
  refine LoopC_intro (α := Int) (fun i => [(0, ptr hb), (6, .int .i64 (r * P c)), (8, .int .i64 (r * P c + P c)), (9, .int .i64 i)])
    (fun n i w' => ∃ C', HeapAt w' z c hb p { s6 with cards := C' } ∧ (∀ k : Nat, C' k = if r * m ≤ (k : Int) ∧ (k : Int) < i then false else s.cards k) ∧ Mv z z (fun i => 3 ≤ i ∧ i ≤ 8) w w' ∧ r * m ≤ i ∧ i ≤ r * m + m ∧ n = (r * m + m - i).toNat)
    (r * m + m - r * m).toNat (r * m) ⟨rfl, rfl, look_int rfl eE, look_int rfl c1, trivial⟩ ⟨s.cards, by rw [e6]; exact h6, fun k => by rw [if_neg (by omega)], M6, Int.le_refl _, (show r * m ≤ r * m + m by omega), rfl⟩ (fun n i w7 hJ => Kp ?_)
  obtain ⟨C', h7, hC, M7, i0, i1, hn⟩ := hJ
  have i0 : r * m ≤ i := i0
  have i1 : i ≤ r * m + m := i1
  have hn : n = (r * m + m - i).toNat := hn
  have t7 := h7.tab
  refine LdN_blk (vs := geoC c) (t7) rfl rfl ?_
  refine CallC_intro (Card_C hV _ w7) (fun v w8 ⟨hv, f8⟩ => ?_)
  have ecE : cardC c (IntKind.i64.wrap (r * P c + P c - 1)) = r * m + m - 1 := by
    rw [wrap_i64 (by omega) (by omega)]
    unfold cardC
    rw [if_neg (by omega)]; exact c2
  rw [ecE] at hv
  subst hv
  have h8 := h7.no f8
  have t8 := h8.tab
  refine Br_dec (fun g => ?_) (fun g => ?_)
  · have g : i ≤ r * m + m - 1 := g
    refine LdC_blk (t8) rfl ?_
    obtain ⟨cb, cr, hCd, zt, zb', zr'⟩ := h8.cards
    refine CallC_intro (Clean_spec i w8 hCd (by omega) (by rw [c3]; omega)) (fun v w9 ⟨_, hC9, f9⟩ => ?_)
    have m9 : Mv z z (· = 5) w8 w9 := Mv.ofZ f9 (fun k _ e => by rw [e]; exact zr')
    have h9 := h8.setCards m9 ⟨cb, cr, hC9, zt, zb', zr'⟩
    refine ⟨(r * m + m - (i + 1)).toNat, _, by omega, ?_, i + 1, rfl, bdrop C' i.toNat, h9, fun k => ?_, (M7.no f8).same (m9.weak (fun _ e => by omega)), (show r * m ≤ i + 1 by omega), (show i + 1 ≤ r * m + m by omega), rfl⟩
    · exact ⟨rfl, rfl, rfl, look_int rfl (wrap_i64 (by omega) (by omega)), trivial⟩
    · unfold bdrop
      rw [hC k]
      by_cases e : k = i.toNat
      · rw [if_pos (show r * m ≤ (k : Int) ∧ (k : Int) < i + 1 by omega), decide_eq_true e]; rfl
      · rw [decide_eq_false e]
        by_cases q : r * m ≤ (k : Int) ∧ (k : Int) < i
        · rw [if_pos q, if_pos (by omega)]; rfl
        · rw [if_neg q, if_neg (by omega)]; rfl
  · have g : ¬ i ≤ r * m + m - 1 := g
    refine LdC_blk (t8) rfl ?_
    obtain ⟨mr, hM, zm, zmr⟩ := h8.marks
    refine CallC_intro (Fill_spec (r * P c) (r * P c + P c) false w8 hM (by omega) (by omega) (by omega)) (fun v w9 ⟨_, hM9, f9⟩ => ?_)
    have m9 : Mv z z (· = 8) w8 w9 := Mv.ofZ f9 (fun k _ e => by rw [e]; exact zmr)
    have h9 := h8.setMarks m9 ⟨mr, hM9, zm, zmr⟩
    refine ⟨rfl, _, h9, ?_, (M7.no f8).same (m9.weak (fun _ e => by omega))⟩
    subst es6
    refine ⟨rfl, rfl, hbl, hbk, fun k => ?_, rfl, rfl, rfl, rfl, rfl, rfl, rfl⟩
    rw [c1, c2]
    show C' k = _
    rw [hC k]
    by_cases q : r * m ≤ (k : Int) ∧ (k : Int) < i
    · rw [if_pos q, if_pos (by omega)]
    · rw [if_neg q, if_neg (by omega)]
/-- All buffers are dropped. -/
def retF (c : Cfg) (bufs : List (Int × Int)) (rs : List R) : List R := bufs.foldl (fun rs x => rsDrop c x rs) rs
theorem retF_len (c : Cfg) : ∀ (bufs : List (Int × Int)) (rs : List R), (retF c bufs rs).length = rs.length := by
  intro bufs
  induction bufs with
  | nil => intro rs; rfl
  | cons x l ih =>
    intro rs
    show (retF c l (rsDrop c x rs)).length = _
    rw [ih, rsDrop_len]
theorem retF_snoc (c : Cfg) (bufs : List (Int × Int)) (x : Int × Int) (rs : List R) : retF c (bufs ++ [x]) rs = rsDrop c x (retF c bufs rs) := by
  unfold retF
  rw [List.foldl_append]; rfl
theorem Retire_spec (w : World) (h : HeapAt w z c hb p s) (hbd : ∀ x ∈ s.bufs, x.1 < x.2 → 0 ≤ x.1 ∧ x.1 < c.c1 * P c) :
    CallC Pr f_heap_Heap_Retire [ptr hb] w (fun v w' => v = .tuple #[] ∧ HeapAt w' z c hb p { s with rs := retF c s.bufs s.rs, bufs := List.replicate c.c3.toNat (0, 0) } ∧ Mv z z (fun i => i = 3 ∨ i = 10) w w') := by
  have hc3 := h.c3
  have hbl := h.bufl
  have hV := h.ok
  have hP := P_le hV
  refine call_sound T_ok fun_heap_Heap_Retire rfl (by kernel_rfl) rfl (Kp ?_)
  refine LdC_blk (h.tab) rfl ?_
  refine LoopC_intro (α := Int) (fun i => [(0, ptr hb), (11, .int .i64 c.c3.toNat), (12, .int .i64 i)])
    (fun n i w' => HeapAt w' z c hb p { s with rs := retF c (s.bufs.take i.toNat) s.rs, bufs := List.replicate i.toNat (0, 0) ++ s.bufs.drop i.toNat } ∧ Mv z z (fun i => i = 3 ∨ i = 10) w w' ∧ 0 ≤ i ∧ i ≤ c.c3 ∧ n = (c.c3 - i).toNat)
    (c.c3 - 0).toNat 0 ⟨rfl, rfl, rfl, trivial⟩ ⟨h, Mv.refl _ _ _, Int.le_refl _, (show (0 : Int) ≤ c.c3 by omega), rfl⟩ (fun n i w1 hJ => Kp ?_)
  obtain ⟨h1, M1, i0, i1, hn⟩ := hJ
  have i0 : 0 ≤ i := i0
  have i1 : i ≤ c.c3 := i1
  have hn : n = (c.c3 - i).toNat := hn
  refine Br_dec (fun g => ?_) (fun g => ?_)
  · have g : i < (c.c3.toNat : Int) := g
    obtain ⟨x, hx⟩ : ∃ x, s.bufs[i.toNat]? = some x := ⟨_, List.getElem?_eq_getElem (by omega)⟩
    have hx1 : (List.replicate i.toNat ((0 : Int), (0 : Int)) ++ s.bufs.drop i.toNat)[i.toNat]? = some x := by
      rw [List.getElem?_append_right (by rw [List.length_replicate]; exact Nat.le_refl _), List.length_replicate, Nat.sub_self, List.getElem?_drop, Nat.add_zero]; exact hx
    have htk : s.bufs.take (i + 1).toNat = s.bufs.take i.toNat ++ [x] := by
      rw [show (i + 1).toNat = i.toNat + 1 by omega, List.take_add_one, hx]; rfl
    have hset : (List.replicate i.toNat ((0 : Int), (0 : Int)) ++ s.bufs.drop i.toNat).set i.toNat (0, 0) = List.replicate (i + 1).toNat (0, 0) ++ s.bufs.drop (i + 1).toNat := by
      rw [List.set_append_right _ _ (by rw [List.length_replicate]; exact Nat.le_refl _), List.length_replicate, Nat.sub_self, show (i + 1).toNat = i.toNat + 1 by omega, List.replicate_succ', List.append_assoc]
      congr 1
      have hlt := (List.getElem?_eq_some_iff.1 hx).1
      rw [List.drop_eq_getElem_cons hlt]; rfl
    refine LdC_blk (h1.tab) rfl ?_
    refine Sd_intro (show 0 ≤ i ∧ i < ((c.c3.toNat : Nat) : Int) from ⟨i0, g⟩) (Kp ?_)
    have hB := h1.buf hx1
    have hD := buf_Drop_spec w1 hB
    rw [show (⟨p.bf, 0 + i.toNat * 2, none⟩ : Addr) = (Addr.mk p.bf 0 none).add (i.toNat * 2) from add_of.symm] at hD
    refine CallC_intro hD (fun v w2 ⟨hv, hB2, f2⟩ => ?_)
    subst hv
    have m2 : Mv z z (· = 10) w1 w2 := Mv.ofZ f2 (fun k _ e => by rw [e]; exact h1.bufz)
    have hb2 := hB2.blk
    rw [bufL_both hx1] at hb2
    rw [hset] at hb2
    have h2 := h1.setBuf m2 hb2 (by rw [← hset, List.length_set]; exact h1.bufl)
    have M2 : Mv z z (fun i => i = 3 ∨ i = 10) w w2 := M1.same (m2.weak (fun _ e => .inr e))
    refine Br_dec (fun g1 => ?_) (fun g1 => ?_)
    · have g1 : x.1 < x.2 := g1
      have hxb := hbd x (List.mem_of_getElem? hx) g1
      have t2 := h2.tab
      have D2 : Fr No w2 w2.drew := Fr.drew w2
      refine AnyC_plan T_ok mixed (planO [0,1,2,3,4,5,6,7,8,10,1009,1011]) ((fun w' => Blk w' hb t_heap_Heap (heapL c p))) (by kernel_rfl) (by kernel_rfl) ((t2.keep (Fr.drew _) id)) (Kp ?_)
      refine LdS_of (fun w' hw => hw) rfl (Kp ?_)
      refine LdSN_of (vs := geoC c) (fun w' hw => hw) rfl rfl (Kp ?_)
      refine ⟨Kp ?_, trivial⟩
      refine CallC_intro (Region_C hV x.1 _) (fun v w3 ⟨hv, f3⟩ => ?_)
      have er : regC c x.1 = x.1 / P c := by unfold regC; rw [if_neg (by omega)]
      rw [er] at hv
      subst hv
      have g3 := D2.no f3
      refine Sd_intro (t2.keep g3 id) (Kp ?_)
      refine ⟨Kp ?_, trivial⟩
      have h3 := h2.no g3
      obtain ⟨rr, hR, zb, zr⟩ := h3.regs
      refine CallC_intro (SetTop_spec (x.1 / P c) x.1 w3 hR) (fun v w4 ⟨_, hR4, f4⟩ => ?_)
      have m4 : Mv z z (· = 3) w3 w4 := Mv.ofZ f4 (fun k _ e => by rw [e]; exact zr)
      have ed : rsDrop c x (retF c (s.bufs.take i.toNat) s.rs) = (setTopF (P c) (x.1 / P c) x.1 (retF c (s.bufs.take i.toNat) s.rs)).2 := by unfold rsDrop; rw [if_pos g1]
      have hR4 : IsReg w4 p.rb rr (P c) (retF c (s.bufs.take (i + 1).toNat) s.rs) := by rw [htk, retF_snoc, ed]; exact hR4
      have h4 := h3.setRegs m4 ⟨rr, hR4, zb, zr⟩ (by rw [retF_len]; exact h.rsl)
      refine Sd_intro h4.tab (Kp ?_)
      refine ⟨(c.c3 - (i + 1)).toNat, _, by omega, ?_, i + 1, rfl, h4, (M2.no g3).same (m4.weak (fun _ e => .inl e)), (show 0 ≤ i + 1 by omega), (show i + 1 ≤ c.c3 by omega), rfl⟩
      exact ⟨rfl, rfl, look_int rfl (wrap_i64 (by omega) (by omega)), trivial⟩
    · have g1 : ¬ x.1 < x.2 := g1
      have er : retF c (s.bufs.take (i + 1).toNat) s.rs = retF c (s.bufs.take i.toNat) s.rs := by
        rw [htk, retF_snoc]
        unfold rsDrop
        rw [if_neg g1]
      refine ⟨(c.c3 - (i + 1)).toNat, _, by omega, ?_, i + 1, rfl, (by rw [er]; exact h2), M2, (show 0 ≤ i + 1 by omega), (show i + 1 ≤ c.c3 by omega), rfl⟩
      exact ⟨rfl, rfl, look_int rfl (wrap_i64 (by omega) (by omega)), trivial⟩
  · have g : ¬ i < (c.c3.toNat : Int) := g
    have ei : i.toNat = c.c3.toNat := by omega
    rw [ei, List.take_of_length_le (by omega), List.drop_eq_nil_of_le (by omega), List.append_nil] at h1
    exact ⟨rfl, h1, M1⟩
end
end Go.Proofs.YtdhbpklmkibmbaaGreatDoor
