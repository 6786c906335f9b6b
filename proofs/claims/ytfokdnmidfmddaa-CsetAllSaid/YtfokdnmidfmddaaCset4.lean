/- Layer 18 (cset): Contains, DeleteFunc, Next. -/
import Derived.Test.YtfokdnmidfmddaaCset3
import Derived.Test.YtfokdnmidfmddaaSame01
import Derived.Test.YtfokdnmidfmddaaVcR
namespace Go.Proofs.Ytfokdnmidfmddaa
open Go.Vc Go.Sort

theorem Index_spec (v : Value) (l : List Int) (x : Int) (w : World) (h : Ints w v l) (hl : l.length ≤ 1000000) :
    CallC Pr f_slices_Index___int_int_ [v, .int .i64 x] w (fun r w' => (∃ j, r = .int .i64 j ∧ ((j = -1 ∧ x ∉ l) ∨ (0 ≤ j ∧ x ∈ l))) ∧ Fr No w w') := by
  obtain ⟨a, c, rfl, _⟩ := id h
  refine call_sound T_ok fun_slices_Index___int_int_ rfl (by kernel_rfl) rfl (Kp ?_)
  refine LoopC_intro (α := Int) (fun k => [(0, .slice a l.length c), (1, .int .i64 x), (7, .int .i64 l.length), (8, .int .i64 k)])
    (fun m k w2 => Fr No w w2 ∧ 0 ≤ k ∧ k ≤ l.length ∧ (∀ i : Nat, (i : Int) < k → l[i]? ≠ some x) ∧ m = (l.length - k).toNat)
    l.length 0 ⟨rfl, rfl, rfl, rfl, trivial⟩ ⟨Fr.refl _ _, Int.le_refl _, (show (0 : Int) ≤ l.length by omega), fun i hi => by have hi : (i : Int) < 0 := hi; omega, by omega⟩ (fun m k w2 hJ => Kp ?_)
  obtain ⟨f2, k0, k1, hk, hm⟩ := hJ
  have k0 : 0 ≤ k := k0
  have k1 : k ≤ l.length := k1
  have hk : ∀ i : Nat, (i : Int) < k → l[i]? ≠ some x := hk
  refine Br_dec (fun g0 => ?_) (fun g0 => ?_)
  · have g0 : k < (l.length : Int) := g0
    have hi : k.toNat < l.length := by omega
    obtain ⟨ad, rfl, hc⟩ := (h.keep f2 (fun _ _ => id)).cell hi
    refine Sd_intro (show 0 ≤ k ∧ k < (l.length : Int) by omega) ?_
    refine LdC_intro (v := .int .i64 l[k.toNat]) (by rw [Nat.mul_one]; exact hc) ?_
    refine Br_dec (fun g1 => ?_) (fun g1 => ?_)
    · have g1 : x = l[k.toNat] := g1
      exact ⟨⟨k, rfl, .inr ⟨k0, by rw [g1]; exact List.getElem_mem hi⟩⟩, f2⟩
    · have g1 : ¬ x = l[k.toNat] := g1
      refine ⟨(l.length - (k + 1)).toNat, _, by omega, ?_, k + 1, rfl, f2, (show 0 ≤ k + 1 by omega), (show k + 1 ≤ (l.length : Int) by omega), fun i hi2 => ?_, rfl⟩
      · exact ⟨rfl, rfl, rfl, look_int rfl (wrap_i64 (by omega) (by omega)), trivial⟩
      · have hi2 : (i : Int) < k + 1 := hi2
        by_cases e : (i : Int) < k
        · exact hk i e
        · have : i = k.toNat := by omega
          subst this
          rw [List.getElem?_eq_getElem hi]
          intro e2; injection e2 with e2; exact g1 e2.symm
  · have g0 : ¬ k < (l.length : Int) := g0
    refine ⟨⟨-1, rfl, .inl ⟨rfl, fun hm => ?_⟩⟩, f2⟩
    obtain ⟨i, hi, e⟩ := List.getElem_of_mem hm
    exact hk i (by omega) (by rw [List.getElem?_eq_getElem hi, e])
theorem Contains_spec (v : Value) (l : List Int) (x : Int) (w : World) (h : Ints w v l) (hl : l.length ≤ 1000000) :
    CallC Pr f_slices_Contains___int_int_ [v, .int .i64 x] w (fun r w' => r = .bool (decide (x ∈ l)) ∧ Fr No w w') := by
  obtain ⟨a, c, rfl, _⟩ := id h
  refine call_sound T_ok fun_slices_Contains___int_int_ rfl (by kernel_rfl) rfl (Kp ?_)
  refine CallC_intro (Index_spec _ l x w h hl) (fun r w1 ⟨⟨j, hr, hj⟩, f1⟩ => ?_)
  subst hr
  refine ⟨?_, f1⟩
  have : decide (j ≥ 0) = decide (x ∈ l) := by
    rcases hj with ⟨rfl, hn⟩ | ⟨h0, hm⟩
    · rw [decide_eq_false hn]; rfl
    · rw [decide_eq_true hm, decide_eq_true h0]
  rw [← this]; rfl
theorem Ints.keep' {w w' : World} {v : Value} {l : List Int} {F : Nat → Prop} (h : Ints w v l) (f : Fr F w w') (hF : l ≠ [] → ∀ k, v.ownBlock = some k → ¬ F k) : Ints w' v l := by
  by_cases e : l = []
  · obtain ⟨a, c, rfl, _⟩ := h
    exact ⟨a, c, rfl, .inl e⟩
  · exact h.keep f (hF e)
theorem Ints.lt {w : World} {v : Value} {l : List Int} (h : Ints w v l) (hne : l ≠ []) : ∀ k, v.ownBlock = some k → k < w.heap.size := by
  intro k e
  obtain ⟨a, c, rfl, hh⟩ := h
  rcases hh with hh | ⟨x, rfl, hh⟩
  · exact absurd hh hne
  · have e : some x.block = some k := e
    injection e with e
    cases l with
    | nil => exact absurd rfl hne
    | cons z r =>
      have h1 := World.block_lt_of_cell? w _ (hh 0 z rfl)
      have eb : (x.add 0).block = x.block := rfl
      omega
/-- A box that holds the list of what was taken. -/
def Box (w : World) (bx : Nat) (tv : Value) (l : List Int) : Prop := Blk w bx t_s_int [tv] ∧ Ints w tv l
theorem Box.keep {w w' : World} {bx : Nat} {tv : Value} {l : List Int} {F : Nat → Prop} (h : Box w bx tv l) (f : Fr F w w') (h1 : ¬ F bx) (h2 : l ≠ [] → ∀ k, tv.ownBlock = some k → ¬ F k) : Box w' bx tv l := ⟨h.1.keep f h1, h.2.keep' f h2⟩
theorem Next_1_spec (c : Int × Int) (bx : Nat) (tv : Value) (l : List Int) (w : World) (h : Box w bx tv l) (hl : l.length ≤ 1000000) :
    CallC Pr f_cset_Next_1 [.agg (candL c).toArray, Value.pointer (some ⟨bx, 0, none⟩)] w (fun r w' => r = .bool (decide (c.1 ∈ l)) ∧ Fr No w w') := by
  refine call_sound T_ok fun_cset_Next_1 rfl (by kernel_rfl) rfl (Kp ?_)
  refine NewC_blk (fun p w1 hp h1 f1 s1 => ?_)
  have h1 : Blk w1 p t_cset_Candidate (candL c) := h1
  have hB := h.keep f1 id (fun _ _ _ => id)
  refine LdC_blk hB.1 rfl ?_
  refine LdC_blk h1 rfl ?_
  refine CallC_intro (Contains_spec tv l c.1 w1 hB.2 hl) (fun r w2 ⟨hr, f2⟩ => ?_)
  subst hr
  exact ⟨rfl, f1.no f2⟩
theorem candsL_take {l : List (Int × Int)} {cur : List Value} {n : Nat} (h : cur.take (n * 2) = candsL l) {i : Nat} (hi : i < l.length) (hn : l.length ≤ n) : (cur.drop (i * 2)).take 2 = candL l[i] := by
  have h1 := candsL_get (List.getElem?_eq_getElem hi)
  rw [← h, List.getElem?_take, List.getElem?_take, if_pos (by omega), if_pos (by omega)] at h1
  obtain ⟨a1, a2⟩ := List.getElem?_eq_some_iff.1 h1.1
  obtain ⟨b1, b2⟩ := List.getElem?_eq_some_iff.1 h1.2
  rw [List.drop_eq_getElem_cons a1, List.drop_eq_getElem_cons b1, a2, b2]; rfl
theorem IndexFunc_spec (v : Value) (l : List (Int × Int)) (bx : Nat) (tv : Value) (tk : List Int) (w : World) (h : Cands w v l) (hB : Box w bx tv tk) (hl : l.length ≤ 1000000) (htk : tk.length ≤ 1000000) :
    CallC Pr f_slices_IndexFunc___cset_Candidate_cset_Candidate_ [v, .func (.func f_cset_Next_1) #[] #[Value.pointer (some ⟨bx, 0, none⟩)]] w
      (fun r w' => (∃ j : Int, r = .int .i64 j ∧ ((j = -1 ∧ ∀ c ∈ l, c.1 ∉ tk) ∨ (0 ≤ j ∧ j < l.length ∧ (∀ i : Nat, (i : Int) < j → ∀ c, l[i]? = some c → c.1 ∉ tk) ∧ ∀ c, l[j.toNat]? = some c → c.1 ∈ tk))) ∧ Fr No w w') := by
  obtain ⟨a, c, rfl, hn, _⟩ := id h
  refine call_sound T_ok fun_slices_IndexFunc___cset_Candidate_cset_Candidate_ rfl (by kernel_rfl) rfl (Kp ?_)
  refine LoopC_intro (α := Int) (fun k => [(0, .slice a l.length c), (1, .func (.func f_cset_Next_1) #[] #[Value.pointer (some ⟨bx, 0, none⟩)]), (7, .int .i64 l.length), (8, .int .i64 k)])
    (fun m k w2 => Fr No w w2 ∧ 0 ≤ k ∧ k ≤ l.length ∧ (∀ i : Nat, (i : Int) < k → ∀ c, l[i]? = some c → c.1 ∉ tk) ∧ m = (l.length - k).toNat)
    l.length 0 ⟨rfl, rfl, rfl, rfl, trivial⟩ ⟨Fr.refl _ _, Int.le_refl _, (show (0 : Int) ≤ l.length by omega), fun i hi => by have hi : (i : Int) < 0 := hi; omega, by omega⟩ (fun m k w2 hJ => Kp ?_)
  obtain ⟨f2, k0, k1, hk, hm⟩ := hJ
  have k0 : 0 ≤ k := k0
  have k1 : k ≤ l.length := k1
  have hk : ∀ i : Nat, (i : Int) < k → ∀ c, l[i]? = some c → c.1 ∉ tk := hk
  refine Br_dec (fun g0 => ?_) (fun g0 => ?_)
  · have g0 : k < (l.length : Int) := g0
    have hi : k.toNat < l.length := by omega
    obtain ⟨a', c', he, hn', hcell⟩ := h.keep f2 (fun _ _ => id)
    injection he with he1 _ _
    subst he1
    cases a with
    | none => exact absurd (hn rfl) (by intro e; rw [e] at hi; cases hi)
    | some ad =>
      have hcc := hcell ad rfl k.toNat _ (List.getElem?_eq_getElem hi)
      refine Sd_intro (show 0 ≤ k ∧ k < (l.length : Int) by omega) ?_
      refine LdN_cells (vs := candL l[k.toNat]) (fun j u hj => ?_) rfl ?_
      · have ea : ∀ m : Nat, (ad.add (k.toNat * 2)).add m = ad.add (k.toNat * 2 + m) := fun m => by
          unfold Addr.add; by_cases h1 : k.toNat * 2 = 0 <;> by_cases h2 : m = 0 <;> simp [h1, h2, Nat.add_assoc]
        have hj2 : j = 0 ∨ j = 1 := by
          have := (List.getElem?_eq_some_iff.1 hj).1
          simp [candL] at this; omega
        rcases hj2 with rfl | rfl
        · injection hj with hj; subst hj; rw [ea]; exact hcc.1
        · injection hj with hj; subst hj; rw [ea]; exact hcc.2
      refine CallC_intro (Next_1_spec l[k.toNat] bx tv tk w2 (hB.keep f2 id (fun _ _ _ => id)) htk) (fun r w3 ⟨hr, f3⟩ => ?_)
      subst hr
      have F3 := f2.no f3
      refine Br_dec (fun g1 => ?_) (fun g1 => ?_)
      · have g1 : l[k.toNat].1 ∈ tk := g1
        exact ⟨⟨k, rfl, .inr ⟨k0, g0, hk, fun c hc => by rw [List.getElem?_eq_getElem hi] at hc; injection hc with hc; rw [← hc]; exact g1⟩⟩, F3⟩
      · have g1 : ¬ l[k.toNat].1 ∈ tk := g1
        refine ⟨(l.length - (k + 1)).toNat, _, by omega, ?_, k + 1, rfl, F3, (show 0 ≤ k + 1 by omega), (show k + 1 ≤ (l.length : Int) by omega), fun i hi2 c hc => ?_, rfl⟩
        · exact ⟨rfl, rfl, rfl, look_int rfl (wrap_i64 (by omega) (by omega)), trivial⟩
        · have hi2 : (i : Int) < k + 1 := hi2
          by_cases e : (i : Int) < k
          · exact hk i e c hc
          · have : i = k.toNat := by omega
            subst this
            rw [List.getElem?_eq_getElem hi] at hc
            injection hc with hc
            rw [← hc]; exact g1
  · have g0 : ¬ k < (l.length : Int) := g0
    refine ⟨⟨-1, rfl, .inl ⟨rfl, fun c hm => ?_⟩⟩, f2⟩
    obtain ⟨i, hi, e⟩ := List.getElem_of_mem hm
    exact hk i (by omega) c (by rw [List.getElem?_eq_getElem hi, e])
/-- What is left of candidates. -/
def keepF (tk : List Int) (l : List (Int × Int)) : List (Int × Int) := l.filter fun c => !decide (c.1 ∈ tk)
theorem keepF_snoc (tk : List Int) (l : List (Int × Int)) {n : Nat} {c : Int × Int} (h : l[n]? = some c) : keepF tk (l.take (n + 1)) = keepF tk (l.take n) ++ (if c.1 ∈ tk then [] else [c]) := by
  unfold keepF
  rw [List.take_add_one, h, List.filter_append]
  congr 1
  by_cases e : c.1 ∈ tk <;> simp [e]
theorem own_len {w : World} {base e size n g cap : Nat} {xs cur : List Value} (own : w.ownsRow base e size (.slice (some ⟨g, 0, none⟩) n cap) n xs) (hb : Blk w g e cur) : cur.length = cap * size := by
  obtain ⟨_, h | ⟨g', cap', cur0, hv, _, hc, _, _, hs, _⟩⟩ := own
  · cases h.1
  · injection hv with hv1 _ hv3
    injection hv1 with hv1
    injection hv1 with hv1 _ _
    subst hv1 hv3
    unfold Blk at hb
    rw [hb] at hc
    injection hc with hc
    injection hc with hc _ _
    rw [← hc] at hs
    simpa using hs
theorem DeleteFunc_spec {base : Nat} (v : Value) (l : List (Int × Int)) (bx : Nat) (tv : Value) (tk : List Int) (w : World) (own : OwnC w base v l) (hB : Box w bx tv tk) (hl : l.length ≤ 1000000) (htk : tk.length ≤ 1000000)
    (nb : v.ownBlock ≠ some bx) (nt : tk ≠ [] → ∀ k, v.ownBlock = some k → tv.ownBlock ≠ some k) :
    CallC Pr f_slices_DeleteFunc___cset_Candidate_cset_Candidate_ [v, .func (.func f_cset_Next_1) #[] #[Value.pointer (some ⟨bx, 0, none⟩)]] w
      (fun r w' => OwnC w' base r (keepF tk l) ∧ Fr (fun k => v.ownBlock = some k) w w') := by
  rcases own_cases own with ⟨rfl, h0, _⟩ | ⟨g, cap, cur, rfl, hbg, hb, ht, hn⟩
  · have : l = [] := List.eq_nil_of_length_eq_zero h0
    subst this
    refine call_sound T_ok fun_slices_DeleteFunc___cset_Candidate_cset_Candidate_ rfl (by kernel_rfl) rfl (Kp ?_)
    refine CallC_intro (IndexFunc_spec _ [] bx tv tk w own.cands hB hl htk) (fun r w1 ⟨⟨j, hr, hj⟩, f1⟩ => ?_)
    subst hr
    have : j = -1 := by
      rcases hj with ⟨e, _⟩ | ⟨a, b, _⟩
      · exact e
      · have b : j < ((0 : Nat) : Int) := b; omega
    subst this
    exact ⟨World.ownsRow_nil _ _ _ _, f1.weak (fun _ _ e => e.elim)⟩
  · have clc := own_len own hb
    refine call_sound T_ok fun_slices_DeleteFunc___cset_Candidate_cset_Candidate_ rfl (by kernel_rfl) rfl (Kp ?_)
    refine CallC_intro (IndexFunc_spec _ l bx tv tk w own.cands hB hl htk) (fun r w1 ⟨⟨j, hr, hj⟩, f1⟩ => ?_)
    subst hr
    refine Br_dec (fun g0 => ?_) (fun g0 => ?_)
    · have g0 : j = -1 := g0
      have : keepF tk l = l := by
        rcases hj with ⟨_, h⟩ | ⟨a, _⟩
        · unfold keepF; rw [List.filter_eq_self]; intro c hc; simp [h c hc]
        · omega
      refine ⟨?_, f1.weak (fun _ _ e => e.elim)⟩
      rw [this]
      exact own_keep own f1 (fun _ _ => id)
    have g0 : ¬ j = -1 := g0
    obtain ⟨j0, jl, hlt, hat⟩ : 0 ≤ j ∧ j < l.length ∧ (∀ i : Nat, (i : Int) < j → ∀ c, l[i]? = some c → c.1 ∉ tk) ∧ ∀ c, l[j.toNat]? = some c → c.1 ∈ tk := by
      rcases hj with ⟨e, _⟩ | h
      · exact absurd e g0
      · exact h
    have kj : keepF tk (l.take j.toNat) = l.take j.toNat := by
      unfold keepF; rw [List.filter_eq_self]; intro c hc
      obtain ⟨i, hi, e⟩ := List.getElem_of_mem hc
      rw [List.length_take] at hi
      rw [List.getElem_take] at e
      have := hlt i (by omega) c (by rw [List.getElem?_eq_getElem (by omega), e])
      simp [this]
    have hb1 := hb.keep f1 id
    have hB1 := hB.keep f1 id (fun _ _ _ => id)
    have nbx : bx ≠ g := fun e => nb (by rw [e]; rfl)
    have ntx : tk ≠ [] → ∀ k, tv.ownBlock = some k → ¬ k = g := fun hne k e e2 => nt hne g rfl (by rw [e, e2])
    have w1j : IntKind.i64.wrap (j + 1) = j + 1 := wrap_i64 (by omega) (by omega)
    refine LoopC_intro (α := Int × Int) (fun q => [(0, .slice (some ⟨g, 0, none⟩) l.length cap), (1, .func (.func f_cset_Next_1) #[] #[Value.pointer (some ⟨bx, 0, none⟩)]), (5, .int .i64 q.1), (6, .int .i64 q.2)])
      (fun m q w4 => Fr (· = g) w w4 ∧ 0 ≤ q.1 ∧ q.1 < q.2 ∧ q.2 ≤ l.length ∧ (∃ c4, Blk w4 g t_cset_Candidate c4 ∧ c4.length = cur.length ∧ c4.take (q.1.toNat * 2) = candsL (keepF tk (l.take q.2.toNat)) ∧ (keepF tk (l.take q.2.toNat)).length = q.1.toNat ∧ c4.drop (q.2.toNat * 2) = cur.drop (q.2.toNat * 2)) ∧ Box w4 bx tv tk ∧ m = (l.length - q.2).toNat)
      (l.length - (j + 1)).toNat (j, j + 1) ⟨rfl, rfl, rfl, look_int rfl w1j, trivial⟩ ⟨f1.weak (fun _ _ e => e.elim), j0, (show j < j + 1 by omega), (show j + 1 ≤ (l.length : Int) by omega), ⟨cur, hb1, rfl, ?_, ?_, rfl⟩, hB1, rfl⟩ (fun m q w4 hJ => Kp ?_)
    · show cur.take (j.toNat * 2) = candsL (keepF tk (l.take (j + 1).toNat))
      have hjc : l[j.toNat]? = some l[j.toNat] := List.getElem?_eq_getElem (by omega)
      rw [show (j + 1).toNat = j.toNat + 1 by omega, keepF_snoc tk l hjc, if_pos (hat _ hjc), List.append_nil, kj]
      have := congrArg (List.take (j.toNat * 2)) ht
      rw [List.take_take, Nat.min_eq_left (by omega)] at this
      rw [this]
      conv => lhs; rw [← List.take_append_drop j.toNat l, candsL_app]
      rw [List.take_append_of_le_length (by rw [candsL_len, List.length_take]; omega), List.take_of_length_le (by rw [candsL_len, List.length_take]; omega)]
    · show (keepF tk (l.take (j + 1).toNat)).length = j.toNat
      have hjc : l[j.toNat]? = some l[j.toNat] := List.getElem?_eq_getElem (by omega)
      rw [show (j + 1).toNat = j.toNat + 1 by omega, keepF_snoc tk l hjc, if_pos (hat _ hjc), List.append_nil, kj, List.length_take]
      omega
    obtain ⟨f4, a0, ab, bn, ⟨c4, hb4, hl4, hp4, hd4, hr4⟩, hB4, hm4⟩ := hJ
    obtain ⟨a, b⟩ := q
    have a0 : 0 ≤ a := a0
    have ab : a < b := ab
    have bn : b ≤ l.length := bn
    have hp4 : c4.take (a.toNat * 2) = candsL (keepF tk (l.take b.toNat)) := hp4
    have hd4 : (keepF tk (l.take b.toNat)).length = a.toNat := hd4
    have hr4 : c4.drop (b.toNat * 2) = cur.drop (b.toNat * 2) := hr4
    refine Br_dec (fun g3 => ?_) (fun g3 => ?_)
    · have g3 : b < (l.length : Int) := g3
      have hi : b.toNat < l.length := by omega
      have hbc : l[b.toNat]? = some l[b.toNat] := List.getElem?_eq_getElem hi
      refine Sd_intro (show 0 ≤ b ∧ b < (l.length : Int) by omega) ?_
      refine LdN_idx (vs := candL l[b.toNat]) hb4 (by rw [Nat.zero_add, hr4]; exact candsL_take ht hi (Nat.le_refl _)) rfl ?_
      refine NewC_blk (fun p w5 hp h5 f5 s5 => ?_)
      have pg : p ≠ g := by have := hb4.lt; omega
      refine StN_blk h5 rfl (Nat.le_of_ble_eq_true rfl) (fun w6 h6 f6 s6 => ?_)
      have h6 : Blk w6 p t_cset_Candidate (candL l[b.toNat]) := h6
      have f46 : Fr No w4 w6 := f5.new f6 (fun _ _ e => e) (fun k e => by omega)
      refine LdN_blk (vs := candL l[b.toNat]) h6 rfl rfl ?_
      have hB6 := hB4.keep f46 id (fun _ _ _ => id)
      have hb6 := hb4.keep f46 id
      refine CallC_intro (Next_1_spec l[b.toNat] bx tv tk w6 hB6 htk) (fun r w7 ⟨hr, f7⟩ => ?_)
      subst hr
      have f47 := f46.no f7
      have hb7 := hb6.keep f7 id
      have h7 := h6.keep f7 id
      have hB7 := hB6.keep f7 id (fun _ _ _ => id)
      have F7 : Fr (· = g) w w7 := f4.trans f47 (fun _ _ e => e) (fun _ _ e => e.elim)
      refine Br_ndec (fun g4 => ?_) (fun g4 => ?_)
      · have g4 : ¬ l[b.toNat].1 ∈ tk := g4
        refine LdN_blk (vs := candL l[b.toNat]) h7 rfl rfl ?_
        refine Sd_intro (show 0 ≤ a ∧ a < (l.length : Int) by omega) ?_
        refine StN_idx hb7 rfl (show 0 + a.toNat * 2 + 2 ≤ c4.length by omega) (fun w8 h8 f8 s8 => ?_)
        rw [Nat.zero_add] at h8
        have F8 : Fr (· = g) w w8 := F7.trans f8 (fun _ _ e => e) (fun _ _ e => e)
        refine ⟨(l.length - (b + 1)).toNat, _, by omega, ?_, (a + 1, b + 1), rfl, F8, (show 0 ≤ a + 1 by omega), (show a + 1 < b + 1 by omega), (show b + 1 ≤ (l.length : Int) by omega), ⟨_, h8, by rw [over_len]; exact hl4, ?_, ?_, ?_⟩, hB7.keep f8 (fun e => nbx e) ntx, rfl⟩
        · exact ⟨rfl, rfl, look_int rfl (wrap_i64 (by omega) (by omega)), look_int rfl (wrap_i64 (by omega) (by omega)), trivial⟩
        · show (over c4 (a.toNat * 2) (candL l[b.toNat])).take ((a + 1).toNat * 2) = candsL (keepF tk (l.take (b + 1).toNat))
          rw [show (b + 1).toNat = b.toNat + 1 by omega, keepF_snoc tk l hbc, if_neg g4, candsL_app, ← hp4]
          have e1 : (a + 1).toNat * 2 = a.toNat * 2 + 2 := by omega
          rw [e1]
          apply List.ext_getElem?
          intro i
          rw [List.getElem?_take, over_get _ _ _ _ (by show a.toNat * 2 + 2 ≤ _; omega), List.getElem?_append, List.length_take, Nat.min_eq_left (by omega)]
          show (if i < a.toNat * 2 + 2 then if a.toNat * 2 ≤ i ∧ i < a.toNat * 2 + 2 then (candL l[b.toNat])[i - a.toNat * 2]? else c4[i]? else none) = if i < a.toNat * 2 then (c4.take (a.toNat * 2))[i]? else (candL l[b.toNat])[i - a.toNat * 2]?
          by_cases h1 : i < a.toNat * 2
          · rw [if_pos (by omega), if_neg (by omega), if_pos h1, List.getElem?_take, if_pos h1]
          · rw [if_neg h1]
            by_cases h2 : i < a.toNat * 2 + 2
            · rw [if_pos h2, if_pos (by omega)]
            · rw [if_neg h2, List.getElem?_eq_none (by show 2 ≤ _; omega)]
        · show (keepF tk (l.take (b + 1).toNat)).length = (a + 1).toNat
          rw [show (b + 1).toNat = b.toNat + 1 by omega, keepF_snoc tk l hbc, if_neg g4, List.length_append, hd4]
          simp; omega
        · show (over c4 (a.toNat * 2) (candL l[b.toNat])).drop ((b + 1).toNat * 2) = cur.drop ((b + 1).toNat * 2)
          apply List.ext_getElem?
          intro i
          rw [List.getElem?_drop, List.getElem?_drop, over_get _ _ _ _ (by show a.toNat * 2 + 2 ≤ _; omega), if_neg (by
            show ¬ (a.toNat * 2 ≤ _ ∧ _ < a.toNat * 2 + 2)
            omega)]
          have := congrArg (fun l => l[2 + i]?) hr4
          simp only [List.getElem?_drop] at this
          rw [show (b + 1).toNat * 2 + i = b.toNat * 2 + (2 + i) by omega]
          exact this
      · have g4 : l[b.toNat].1 ∈ tk := g4
        refine ⟨(l.length - (b + 1)).toNat, _, by omega, ?_, (a, b + 1), rfl, F7, a0, (show a < b + 1 by omega), (show b + 1 ≤ (l.length : Int) by omega), ⟨_, hb7, hl4, ?_, ?_, ?_⟩, hB7, rfl⟩
        · exact ⟨rfl, rfl, rfl, look_int rfl (wrap_i64 (by omega) (by omega)), trivial⟩
        · show c4.take (a.toNat * 2) = candsL (keepF tk (l.take (b + 1).toNat))
          rw [show (b + 1).toNat = b.toNat + 1 by omega, keepF_snoc tk l hbc, if_pos g4, List.append_nil]; exact hp4
        · show (keepF tk (l.take (b + 1).toNat)).length = a.toNat
          rw [show (b + 1).toNat = b.toNat + 1 by omega, keepF_snoc tk l hbc, if_pos g4, List.append_nil]; exact hd4
        · show c4.drop ((b + 1).toNat * 2) = cur.drop ((b + 1).toNat * 2)
          rw [show (b + 1).toNat * 2 = b.toNat * 2 + 2 by omega, ← List.drop_drop, hr4, List.drop_drop]
    · have g3 : ¬ b < (l.length : Int) := g3
      have eb : b.toNat = l.length := by omega
      rw [eb, List.take_length] at hp4 hd4
      refine Sd_intro (show 0 ≤ a ∧ a ≤ (l.length : Int) ∧ (l.length : Int) ≤ cap by omega) ?_
      have es2 : (Value.slice (cutA (some ⟨g, 0, none⟩) cap a.toNat 2) ((l.length : Int).toNat - a.toNat) (cap - a.toNat)) = .slice (some ⟨g, a.toNat * 2, none⟩) (l.length - a.toNat) (cap - a.toNat) := by
        unfold cutA
        rw [if_neg (by omega)]
        simp [add_of]
      rw [es2]
      refine ClrK T_ok rfl rfl rfl rfl hb4 (show a.toNat * 2 + (l.length - a.toNat) * 2 ≤ c4.length by omega) (fun w7 c7 h7 l7 t7 f7 => ?_)
      refine Sd_intro (show 0 ≤ (0 : Int) ∧ (0 : Int) ≤ a ∧ a ≤ cap by omega) ?_
      have es3 : (Value.slice (cutA (some ⟨g, 0, none⟩) cap (0 : Int).toNat 2) (a.toNat - (0 : Int).toNat) (cap - (0 : Int).toNat)) = .slice (some ⟨g, 0, none⟩) a.toNat cap := by
        unfold cutA
        rw [if_neg (by show ¬ cap = 0; omega)]
        rfl
      refine ⟨?_, ?_⟩
      · have := own_over (w' := w7) (m := a.toNat) (ys := candsL (keepF tk l)) own hb h7 (by omega) (by omega) (by rw [t7]; exact hp4)
        unfold OwnC
        rw [es3, hd4]
        exact this
      · exact (f4.trans f7 (fun _ _ e => by rw [e]; rfl) (fun _ _ e => by rw [e]; rfl))
theorem own_base {w : World} {b b' e size n : Nat} {v : Value} {xs : List Value} (h : w.ownsRow b e size v n xs) (hb : b' ≤ b) : w.ownsRow b' e size v n xs := by
  obtain ⟨hl, h | ⟨g, cap, cur, hv, h1, hr⟩⟩ := h
  · exact ⟨hl, .inl h⟩
  · exact ⟨hl, .inr ⟨g, cap, cur, hv, Nat.le_trans hb h1, hr⟩⟩
theorem Next_spec (v tv : Value) (l : List (Int × Int)) (tk : List Int) (w : World) (h : Cands w v l) (ht : Ints w tv tk) (hl : l.length ≤ 1000000) (htk : tk.length ≤ 1000000) :
    CallC Pr f_cset_Next [v, tv] w (fun r w' => OwnC w' w.heap.size r (keepF tk l) ∧ Fr No w w') := by
  obtain ⟨a, c, rfl, _⟩ := id ht
  obtain ⟨a1, c1, rfl, _⟩ := id h
  refine call_sound T_ok fun_cset_Next rfl (by kernel_rfl) rfl (Kp ?_)
  refine NewC_blk (fun bx w1 hbx h1 f1 s1 => ?_)
  have h1 : Blk w1 bx t_s_int [.slice a tk.length c] := h1
  refine CallC_intro (Clone_cand_spec _ l w1 (h.keep f1 (fun _ _ => id)) hl) (fun r w2 ⟨own, f2⟩ => ?_)
  have hB : Box w2 bx (.slice a tk.length c) tk := ⟨h1.keep f2 id, (ht.keep f1 (fun _ _ => id)).keep f2 (fun _ _ => id)⟩
  refine CallC_intro (DeleteFunc_spec r l bx _ tk w2 own hB hl htk (fun e => ?_) (fun hne k e e2 => ?_)) (fun r2 w3 ⟨own3, f3⟩ => ?_)
  · have := own_ge own bx e; omega
  · have g1 := own_ge own k e
    have g2 := ht.lt hne k e2
    have := f1.size; omega
  · refine ⟨?_, (f1.no f2).new f3 (fun _ _ e => e) (fun k e => ?_)⟩
    · exact own_base own3 f1.size
    · have := own_ge own k e
      have := f1.size; omega
end Go.Proofs.Ytfokdnmidfmddaa
