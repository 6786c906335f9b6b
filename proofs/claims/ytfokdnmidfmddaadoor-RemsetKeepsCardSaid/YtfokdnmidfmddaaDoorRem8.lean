/- Layer 11 (remset): the law's first calls, and sets that aren't there. -/
import Derived.Test.YtfokdnmidfmddaaDoorRem7
namespace Go.Proofs.YtfokdnmidfmddaaDoor
open Go.Vc

theorem blk_map {w : World} {b t c : Nat} {cs : List Value} {es : Array MapEntry} (h : Blk w b t cs) {m : Nat} (h2 : MapAt w m es c) : b ≠ m := by
  intro e
  subst e
  unfold Blk at h
  unfold MapAt at h2
  rw [h] at h2
  injection h2 with h2
  cases h2
theorem sets_nil {w : World} {b m1 m2 m3 : Nat} {n per : Int} (h : IsSets w b m1 m2 m3 n per) (a1 : MapAt w m1 #[] 0) (a2 : MapAt w m2 #[] 0) (a3 : MapAt w m3 #[] 0) : SetsG w b m1 m2 m3 n per [] [] [] := by
  obtain ⟨n1, n2, n3⟩ := h.ne
  refine ⟨h.tab, MapG.new a1, MapG.new a2, MapG.new a3, fun e he => (by cases he), fun e he => (by cases he), List.nodup_nil, ?_, fun e he => (by cases he)⟩
  unfold restB
  simp [n1, n2, n3, blk_map h.tab a1, blk_map h.tab a2, blk_map h.tab a3]
theorem sort_is {L M : List Int} (h : L.Perm M) (hs : M.Pairwise (· ≤ ·)) : (L.mergeSort fun x y => decide (x ≤ y)) = M := by
  refine List.Perm.eq_of_pairwise (le := fun x y => x ≤ y) (fun a b _ _ h1 h2 => by omega) ?_ hs ((List.mergeSort_perm L _).trans h)
  have := List.pairwise_mergeSort (le := fun x y : Int => decide (x ≤ y)) (fun a b c h1 h2 => by simp at *; omega) (fun a b => by simp; omega) L
  exact this.imp (fun h => by simpa using h)
def from8 (c : Int) : List Int := (List.range (c - 8).toNat).map fun (i : Nat) => 8 + (i : Int)
theorem from8_snoc {c : Int} (h : 8 ≤ c) : from8 (c + 1) = from8 c ++ [c] := by
  unfold from8
  rw [show (c + 1 - 8).toNat = (c - 8).toNat + 1 by omega, List.range_succ, List.map_append]
  congr 1
  show [8 + (((c - 8).toNat : Nat) : Int)] = [c]
  rw [Int.toNat_of_nonneg (by omega)]
  congr 1; omega
theorem from8_mem' {c x : Int} (h : x ∈ from8 c) : 8 ≤ x ∧ x < c := by
  unfold from8 at h
  obtain ⟨i, hi, e⟩ := List.mem_map.1 h
  have := List.mem_range.1 hi
  subst e
  omega
theorem from8_len (c : Int) : (from8 c).length = (c - 8).toNat := by simp [from8]
theorem spGet_one {e : SpE} {k : Int × Int} (h : e.k = k) : spGet [e] k = some e := by
  unfold spGet spM
  simp [idxM, h]
theorem put_one {e e' : SpE} (h : e.k = e'.k) : putSp [e] e' = [e'] := by
  unfold putSp spM
  simp [idxM, h]
theorem ints_of_blk {w : World} {p : Nat} {l : List Int} (h : Blk w p t_int (ints l)) (n c : Nat) (hn : n = l.length) : Ints w (.slice (some ⟨p, 0, none⟩) n c) l := by
  subst hn
  refine ⟨_, _, rfl, .inr ⟨_, rfl, fun i z hi => ?_⟩⟩
  rw [add_of, Nat.zero_add]
  exact h.cell (ints_get? hi)
theorem small11_spec (w : World) : CallC Pr f_gleanerlaw11_small [] w (fun v w' => v = .agg #[.int .i64 512, .int .i64 64, .int .i64 8, .int .i64 8, .int .i64 64, .int .i64 448] ∧ Fr No w w') := by
  refine call_sound T_ok fun_gleanerlaw11_small rfl (by kernel_rfl) rfl (Kp ?_)
  refine NewC_blk (fun p w1 hp h1 f1 s1 => ?_)
  refine StN_blk h1 rfl (Nat.le_of_ble_eq_true rfl) (fun w2 h2 f2 s2 => ?_)
  have h2 : Blk w2 p t_geom_Geom [.int .i64 512, .int .i64 64, .int .i64 8, .int .i64 8, .int .i64 64, .int .i64 448] := h2
  refine LdN_blk (vs := [.int .i64 512, .int .i64 64, .int .i64 8, .int .i64 8, .int .i64 64, .int .i64 448]) h2 rfl rfl ?_
  exact ⟨rfl, f1.new f2 (fun _ _ e => e) (fun k e => by omega)⟩
theorem smallSets_spec (w : World) : CallC Pr f_remset_New [.agg #[.int .i64 512, .int .i64 64, .int .i64 8, .int .i64 8, .int .i64 64, .int .i64 448]] w
      (fun v w' => ∃ b m1 m2 m3, v = .tuple #[.pointer (some ⟨b, 0, none⟩), .int .i64 0] ∧ SetsG w' b m1 m2 m3 8 8 [] [] [] ∧ Fr No w w' ∧ w.heap.size ≤ b ∧ w.heap.size ≤ m1 ∧ w.heap.size ≤ m2 ∧ w.heap.size ≤ m3) :=
  CallC_mk (Calls.mono (CallC_elim (remset_New_spec 512 64 8 8 64 448 w (by decide) (by decide) (by decide) (by decide) (by decide) (by decide) (by decide) (by decide) (by decide))) fun e w' ⟨v, he, b, m1, m2, m3, hv, hs, a1, a2, a3, f, k⟩ => ⟨v, he, b, m1, m2, m3, hv, sets_nil hs a1 a2 a3, f, k⟩)

set_option maxHeartbeats 2000000 in
theorem awake11_spec (w : World) (hT : Tab64 w) : CallC Pr f_gleanerlaw11_awake [] w (fun v w' => v = .bool true ∧ Fr No w w') := by
  obtain ⟨N, hN⟩ : ∃ N : Int, N = 8 := ⟨_, rfl⟩
  refine call_sound T_ok fun_gleanerlaw11_awake rfl (by kernel_rfl) rfl (Kp ?_)
  refine CallC_intro (small11_spec w) (fun v w1 ⟨hv, f1⟩ => ?_)
  subst hv
  refine CallC_intro (smallSets_spec w1) (fun v w2 hh => ?_)
  obtain ⟨b, m1, m2, m3, hv, h2, f2, k0, k1, k2, k3⟩ := hh
  subst hv
  have F2 := f1.no f2
  have s1 := f1.size
  rw [← hN] at h2
  refine LoopC_intro (α := Int) (fun c => [(1, .pointer (some ⟨b, 0, none⟩)), (3, .int .i64 c)])
    (fun m c w3 => Fr No w w3 ∧ 8 ≤ c ∧ c ≤ 13 ∧ (∃ sp fi, SetsG w3 b m1 m2 m3 N N sp fi [] ∧ (∀ e ∈ sp, w.heap.size ≤ e.g) ∧ ((c ≤ 12 ∧ fi = [] ∧ ((sp = [] ∧ from8 c = []) ∨ ∃ e, sp = [e] ∧ e.k = (0, 1) ∧ e.l = from8 c)) ∨ (c = 13 ∧ sp = [] ∧ ∃ f r, fi = [⟨(0, 1), f, r, setOf N (from8 13)⟩]))) ∧ m = (13 - c).toNat)
    5 8 ⟨rfl, rfl, trivial⟩ ⟨F2, Int.le_refl _, (by show (8 : Int) ≤ 13; omega), ⟨[], [], h2, (fun e he => by cases he), .inl ⟨(by show (8 : Int) ≤ 12; omega), rfl, .inl ⟨rfl, rfl⟩⟩⟩, rfl⟩ (fun m c w3 hJ => Kp ?_)
  obtain ⟨F3, c0, c1, ⟨sp, fi, h3, hg, hc⟩, hm⟩ := hJ
  have c0 : 8 ≤ c := c0
  have c1 : c ≤ 13 := c1
  refine Br_dec (fun g => ?_) (fun g => ?_)
  · have g : c < 13 := g
    rcases hc with ⟨_, rfl, hc⟩ | ⟨e, _⟩
    · have ec : c / N = 1 := by rw [hN]; omega
      have hnot : c ∉ from8 c := fun h => by have := from8_mem' h; omega
      have hr : 0 ≤ (0 : Int) ∧ 0 < N ∧ 0 ≤ c ∧ c < N * N := by rw [hN]; omega
      have hl : (spGet sp (0, c / N) = none ∧ from8 c = []) ∨ ∃ o, spGet sp (0, c / N) = some o ∧ o.l = from8 c := by
        rw [ec]
        rcases hc with ⟨rfl, e⟩ | ⟨e, rfl, ek, el⟩
        · exact .inl ⟨rfl, e⟩
        · exact .inr ⟨e, spGet_one ek, el⟩
      have hog : ∀ x, (∃ o, spGet sp (0, c / N) = some o ∧ x = o.g) → w.heap.size ≤ x := fun x ⟨o, ho, e⟩ => by rw [e]; exact hg o (spGet_some ho).1
      by_cases g4 : c < 12
      · refine CallC_intro (Add_sp 0 c (from8 c) w3 h3 (by omega) (by omega) (by rw [hN]; decide) hr (by rw [ec]; decide) rfl rfl hl hnot (by rw [from8_len]; omega)) (fun v w4 hh => ?_)
        obtain ⟨hv, ⟨e, ek, el, h4, ge⟩, f4⟩ := hh
        subst hv
        have F4 : Fr No w w4 := F3.new f4 (fun _ _ e => e) (fun x e => by
          rcases e with e | e
          · omega
          · exact hog x e)
        refine ⟨(13 - (c + 1)).toNat, _, by omega, ?_, c + 1, rfl, F4, (show 8 ≤ c + 1 by omega), (show c + 1 ≤ 13 by omega), ⟨_, [], h4, ?_, .inl ⟨(show c + 1 ≤ 12 by omega), rfl, .inr ⟨e, ?_, by rw [ek, ec], by rw [el, from8_snoc c0]⟩⟩⟩, rfl⟩
        · exact ⟨rfl, look_int rfl (wrap_i64 (by omega) (by omega)), trivial⟩
        · intro x hx
          rcases mem_putSp hx with rfl | hx
          · rcases ge with ⟨o, ho, eg⟩ | h
            · rw [eg]; exact hg o (spGet_some ho).1
            · have := F3.size; omega
          · exact hg x hx
        · rcases hc with ⟨rfl, _⟩ | ⟨e0, rfl, ek0, _⟩
          · rfl
          · exact put_one (by rw [ek, ek0, ec])
      · have ec12 : c = 12 := by omega
        refine CallC_intro (Add_refine 0 c (from8 c) w3 h3 (by omega) (by omega) (by rw [hN]; decide) hr (by rw [ec]; decide) rfl rfl hl hnot (by rw [from8_len]; omega) (by rw [from8_len]; omega) (fun x hx => by have := from8_mem' hx; omega) rfl (by decide)) (fun v w4 hh => ?_)
        obtain ⟨hv, ⟨f, r, h4, _⟩, f4⟩ := hh
        subst hv
        have F4 : Fr No w w4 := F3.new f4 (fun _ _ e => e) (fun x e => by
          rcases e with e | e | e
          · omega
          · omega
          · exact hog x e)
        rw [← from8_snoc c0] at h4
        refine ⟨(13 - (c + 1)).toNat, _, by omega, ?_, c + 1, rfl, F4, (show 8 ≤ c + 1 by omega), (show c + 1 ≤ 13 by omega), ⟨_, _, h4, ?_, .inr ⟨(show c + 1 = 13 by omega), ?_, f, r, ?_⟩⟩, rfl⟩
        · exact ⟨rfl, look_int rfl (wrap_i64 (by omega) (by omega)), trivial⟩
        · intro x hx; exact hg x (List.mem_filter.1 hx).1
        · rcases hc with ⟨rfl, _⟩ | ⟨e0, rfl, ek0, _⟩
          · rfl
          · unfold delSp; rw [ec, List.filter_cons, if_neg (by simp [ek0])]; rfl
        · rw [ec, ec12]; rfl
    · omega
  · have g : ¬ c < 13 := g
    rcases hc with ⟨hc, _⟩ | ⟨_, rfl, f, r, rfl⟩
    · omega
    have H : from8 13 = [8, 9, 10, 11, 12] := by decide
    have hr1 : 0 ≤ (0 : Int) ∧ 0 < N := by omega
    refine CallC_intro (Add_shape 0 3 w3 h3.tab (by omega) (by omega) (by rw [hN]; decide) (by rw [hN]; decide) (by rw [hN]; decide)) (fun v w4 ⟨hv, f4⟩ => ?_)
    subst hv
    have h4 := h3.keep f4 (fun _ _ => id) (fun _ _ => id)
    have F4 := F3.no f4
    refine CallC_intro (Way_fine 0 1 _ w4 h4 hr1 (List.mem_singleton.2 rfl) rfl rfl) (fun v w5 ⟨hv, f5⟩ => ?_)
    subst hv
    have h5 := h4.keep f5 (fun _ _ => id) (fun _ _ => id)
    have F5 := F4.no f5
    have hC : cardsL 0 N [] [⟨(0, 1), f, r, setOf N (from8 13)⟩] [] = [8, 9, 10, 11, 12] := by
      unfold cardsL fiF
      rw [hN]
      simp only [List.flatMap_nil, List.nil_append, List.append_nil, List.flatMap_cons]
      decide
    refine CallC_intro (Cards_spec 0 w5 h5 (hT.keep F5 id) (by omega) (by omega) (by rw [hN]; decide) hr1 (fun e he => by
        have : e = _ := List.mem_singleton.1 he
        subst this; exact ⟨(by decide : (0 : Int) ≤ 1), (by omega : (1 : Int) < N)⟩) (fun k hk => by cases hk) (by rw [hC]; decide)) (fun v w6 ⟨⟨L, hL, own6⟩, f6⟩ => ?_)
    rw [hC] at hL
    rw [sort_is hL (by decide)] at own6
    have h6 := h5.keep f6 (fun _ _ => id) (fun _ _ => id)
    have F6 := F5.no f6
    obtain ⟨va, vc, ev⟩ := own_slice own6
    subst ev
    refine gd_t 3 43 (by rfl) (by kernel_rfl) (by kernel_rfl) ?_
    refine NewC_blk (fun p w7 hp7 h7 f7 s7 => ?_)
    have h7 : Blk w7 p t_int (ints [8, 9, 10, 11, 12]) := h7
    refine CallC_intro (Same_spec _ _ _ _ w7 (own6.ints.keep f7 (fun _ _ => id)) (ints_of_blk h7 5 5 rfl) (by decide)) (fun v w8 ⟨hv, f8⟩ => ?_)
    rw [decide_eq_true rfl] at hv
    subst hv
    have f68 := f7.no f8
    have h8 := h6.keep f68 (fun _ _ => id) (fun _ _ => id)
    have F8 := F6.no f68
    refine CallC_intro (Has_fine 0 12 _ w8 h8 (by omega) (by omega) (by rw [hN]; decide) (by rw [hN]; decide) (List.mem_singleton.2 rfl) (by rw [hN]; rfl) rfl rfl) (fun v w9 ⟨hv, f9⟩ => ?_)
    have e1 : setOf N (from8 13) ((12 : Int) % N).toNat = true := by rw [hN]; decide
    have hv : v = .bool true := by rw [hv]; exact congrArg Value.bool e1
    subst hv
    have h9 := h8.keep f9 (fun _ _ => id) (fun _ _ => id)
    have F9 := F8.no f9
    refine CallC_intro (Has_fine 0 13 _ w9 h9 (by omega) (by omega) (by rw [hN]; decide) (by rw [hN]; decide) (List.mem_singleton.2 rfl) (by rw [hN]; rfl) rfl rfl) (fun v w10 ⟨hv, f10⟩ => ?_)
    have e1 : setOf N (from8 13) ((13 : Int) % N).toNat = false := by rw [hN]; decide
    have hv : v = .bool false := by rw [hv]; exact congrArg Value.bool e1
    subst hv
    exact ⟨rfl, F9.no f10⟩
theorem RemsetNil_spec (a b : Int) (w : World) (hT : Tab64 w) : CallC Pr f_gleanerlaw11_RemsetNil [.int .i64 a, .int .i64 b] w (fun v w' => v = .bool true ∧ Fr No w w') := by
  refine call_sound T_ok fun_gleanerlaw11_RemsetNil rfl (by kernel_rfl) rfl (Kp ?_)
  refine CallC_intro (awake11_spec w hT) (fun v w1 ⟨hv, f⟩ => ?_)
  subst hv
  refine CallC_intro (Add_nil11 a b w1) (fun v w2 ⟨hv, f1⟩ => ?_)
  subst hv
  have f := f.no f1
  refine CallC_intro (Has_nil11 a b w2) (fun v w3 ⟨hv, f1⟩ => ?_)
  subst hv
  have f := f.no f1
  refine CallC_intro (Cards_nil11 a w3) (fun v w4 ⟨hv, f1⟩ => ?_)
  subst hv
  have f := f.no f1
  refine CallC_intro (Way_nil11 a b w4) (fun v w5 ⟨hv, f1⟩ => ?_)
  subst hv
  have f := f.no f1
  refine CallC_intro (Clear_nil11 a w5) (fun v w6 ⟨hv, f1⟩ => ?_)
  subst hv
  have f := f.no f1
  refine CallC_intro (Scrub_nil11 a w6) (fun v w7 ⟨hv, f1⟩ => ?_)
  subst hv
  exact ⟨rfl, f.no f1⟩
end Go.Proofs.YtfokdnmidfmddaaDoor
