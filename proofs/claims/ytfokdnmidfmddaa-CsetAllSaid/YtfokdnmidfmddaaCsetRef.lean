/- Layer 18 (cset): the document's answer (gleanerref18). -/
import Derived.Test.YtfokdnmidfmddaaCsetLaw
import Derived.Test.YtfokdnmidfmddaaCset7
namespace Go.Proofs.Ytfokdnmidfmddaa
open Go.Vc Go.Sort

theorem live18_spec (c : Int × Int) (w : World) : CallC Pr f_gleanerref18_live [.agg (candL c).toArray] w (fun v w' => v = .int .i64 (liveK c) ∧ Fr No w w') := by
  refine call_sound T_ok fun_gleanerref18_live rfl (by kernel_rfl) rfl (Kp ?_)
  refine NewC_blk (fun p w1 hp h1 f1 s1 => ?_)
  have h1 : Blk w1 p t_gleanerref18_Candidate (candL c) := h1
  refine LdC_blk h1 rfl ?_
  exact ⟨rfl, f1⟩
theorem less18_spec (a b : Int × Int) (w : World) : CallC Pr f_gleanerref18_less [.agg (candL a).toArray, .agg (candL b).toArray] w (fun v w' => v = .bool (decide (cmpK a b < 0)) ∧ Fr No w w') := by
  refine call_sound T_ok fun_gleanerref18_less rfl (by kernel_rfl) rfl (Kp ?_)
  refine NewC_blk (fun p w1 hp h1 f1 s1 => ?_)
  have h1 : Blk w1 p t_gleanerref18_Candidate (candL a) := h1
  refine NewC_blk (fun q w2 hq h2 f2 s2 => ?_)
  have h2 : Blk w2 q t_gleanerref18_Candidate (candL b) := h2
  have h1 := h1.keep f2 id
  have F2 := f1.no f2
  have fin : ∀ (r : Bool) (w' : World), Fr No w2 w' → r = decide (cmpK a b < 0) → Value.bool r = .bool (decide (cmpK a b < 0)) ∧ Fr No w w' := fun r w' f e => ⟨by rw [e], F2.no f⟩
  refine AnyC_ord [0,2,1001,1003,4,5,6,8,1007,1009,10,11,12,13,14,15,16,17,18,19] T_ok mixed (by kernel_rfl) (by kernel_rfl) (Kp ?_)
  refine LdSN_blk (vs := candL a) h1 rfl rfl ?_
  refine LdSN_blk (vs := candL b) h2 rfl rfl ?_
  refine ⟨?_, trivial⟩
  refine CallC_intro (live18_spec a _) (fun v w3 ⟨hv, f3⟩ => ?_)
  subst hv
  have f3 := f3.drewL
  refine Sd_intro f3.old ?_
  refine ⟨?_, trivial⟩
  refine CallC_intro (live18_spec b _) (fun v w4 ⟨hv, f4⟩ => ?_)
  subst hv
  have f4 := f3.no f4
  refine Sd_intro f4.old ?_
  refine Br_dec (fun g0 => ?_) (fun g0 => ?_)
  · have g0 : liveK a < liveK b := g0
    refine ⟨?_, trivial⟩
    refine ⟨?_, trivial⟩
    exact fin true _ f4 (by rw [eq_comm, decide_eq_true_iff, cmpK_neg]; exact .inl g0)
  · have g0 : ¬ liveK a < liveK b := g0
    refine LdSN_blk (vs := candL a) h1 rfl rfl ?_
    refine LdSN_blk (vs := candL b) h2 rfl rfl ?_
    refine ⟨?_, trivial⟩
    refine CallC_intro (live18_spec a _) (fun v w5 ⟨hv, f5⟩ => ?_)
    subst hv
    have f5 := f4.no f5
    refine Sd_intro f5.old ?_
    refine ⟨?_, trivial⟩
    refine CallC_intro (live18_spec b _) (fun v w6 ⟨hv, f6⟩ => ?_)
    subst hv
    have f6 := f5.no f6
    refine Sd_intro f6.old ?_
    refine Br_dec (fun g1 => ?_) (fun g1 => ?_)
    · have g1 : liveK a = liveK b := g1
      refine LdS_blk h1 rfl ?_
      refine LdS_blk h2 rfl ?_
      refine fin _ _ f6 ?_
      rw [decide_eq_decide, cmpK_neg]
      omega
    · have g1 : ¬ liveK a = liveK b := g1
      exact fin false _ f6 (by rw [eq_comm, decide_eq_false_iff_not, cmpK_neg]; omega)
/-- A number into a rising list. -/
def insP (l : List Int) (n : Int) (i : Nat) : List Int := l.take i ++ n :: l.drop i
theorem insP_len (l : List Int) (n : Int) {i : Nat} (h : i ≤ l.length) : (insP l n i).length = l.length + 1 := by unfold insP; simp; omega
theorem insP_get (l : List Int) (n : Int) {i j : Nat} (h : i ≤ l.length) : (insP l n i)[j]? = if j < i then l[j]? else if j = i then some n else l[j - 1]? := by
  unfold insP
  rw [List.getElem?_append, List.length_take, Nat.min_eq_left h]
  by_cases h1 : j < i
  · rw [if_pos h1, if_pos h1, List.getElem?_take, if_pos h1]
  · rw [if_neg h1, if_neg h1]
    by_cases h2 : j = i
    · subst h2; rw [if_pos rfl, Nat.sub_self]; rfl
    · rw [if_neg h2, show j - i = (j - i - 1) + 1 by omega, List.getElem?_cons_succ, List.getElem?_drop]
      congr 1; omega
theorem insP_mem (l : List Int) (n : Int) (i : Nat) (x : Int) : x ∈ insP l n i ↔ x ∈ l ∨ x = n := by
  unfold insP
  rw [List.mem_append, List.mem_cons]
  conv => rhs; rw [← List.take_append_drop i l, List.mem_append]
  constructor
  · rintro (h | h | h)
    · exact .inl (.inl h)
    · exact .inr h
    · exact .inl (.inr h)
  · rintro ((h | h) | h)
    · exact .inl h
    · exact .inr (.inr h)
    · exact .inr (.inl h)
theorem insP_strict {l : List Int} {n : Int} {i : Nat} (hs : l.Pairwise (fun x y => x < y)) (h1 : ∀ x ∈ l.take i, x < n) (h2 : ∀ x ∈ l.drop i, n < x) : (insP l n i).Pairwise (fun x y => x < y) := by
  unfold insP
  have hs' := hs
  rw [← List.take_append_drop i l] at hs'
  obtain ⟨a, b, c⟩ := List.pairwise_append.1 hs'
  refine List.pairwise_append.2 ⟨a, List.pairwise_cons.2 ⟨h2, b⟩, fun x hx y hy => ?_⟩
  rcases List.mem_cons.1 hy with rfl | hy
  · exact h1 x hx
  · exact c x hx y hy
theorem add18_spec {base : Nat} (v : Value) (l : List Int) (n : Int) (w : World) (own : Own w base v l) (hbase : base ≤ w.heap.size) (hl : l.length ≤ 1000000) (hs : l.Pairwise (fun x y => x < y)) :
    CallC Pr f_gleanerref18_add [v, .int .i64 n] w (fun r w' => (∃ l', Own w' base r l' ∧ l'.length ≤ l.length + 1 ∧ l'.Pairwise (fun x y => x < y) ∧ ∀ x, x ∈ l' ↔ x ∈ l ∨ x = n) ∧ (r.ownBlock = v.ownBlock ∨ ∀ k, r.ownBlock = some k → w.heap.size ≤ k) ∧ Fr (fun k => v.ownBlock = some k) w w') := by
  obtain ⟨a, c, ev⟩ := own_slice own
  subst ev
  refine call_sound T_ok fun_gleanerref18_add rfl (by kernel_rfl) rfl (Kp ?_)
  refine LoopC_intro (α := Int) (fun k => [(0, .slice a l.length c), (1, .int .i64 n), (5, .int .i64 k)])
    (fun m k w2 => w2 = w ∧ 0 ≤ k ∧ k ≤ l.length ∧ (∀ i : Nat, (i : Int) < k → l[i]? ≠ some n) ∧ m = (l.length - k).toNat)
    l.length 0 ⟨rfl, rfl, rfl, trivial⟩ ⟨rfl, Int.le_refl _, by show (0 : Int) ≤ _; omega, fun i hi => by have hi : (i : Int) < 0 := hi; omega, by show _ = ((l.length : Int) - 0).toNat; omega⟩ (fun m k w2 hJ => Kp ?_)
  obtain ⟨rfl, k0, k1, hk, hm⟩ := hJ
  have k0 : 0 ≤ k := k0
  have k1 : k ≤ l.length := k1
  have hk : ∀ i : Nat, (i : Int) < k → l[i]? ≠ some n := hk
  refine Br_dec (fun g0 => ?_) (fun g0 => ?_)
  · have g0 : k < (l.length : Int) := g0
    have hi : k.toNat < l.length := by omega
    obtain ⟨ad, rfl, hc⟩ := own.ints.cell hi
    refine Sd_intro (show 0 ≤ k ∧ k < (l.length : Int) by omega) ?_
    refine LdC_intro (v := .int .i64 l[k.toNat]) (by rw [Nat.mul_one]; exact hc) ?_
    refine Br_dec (fun g1 => ?_) (fun g1 => ?_)
    · have g1 : l[k.toNat] = n := g1
      refine ⟨⟨l, own, by omega, hs, fun x => ?_⟩, .inl rfl, Fr.refl _ _⟩
      constructor
      · exact .inl
      · rintro (h | h)
        · exact h
        · rw [h, ← g1]; exact List.getElem_mem hi
    · have g1 : ¬ l[k.toNat] = n := g1
      refine ⟨(l.length - (k + 1)).toNat, _, by omega, ?_, k + 1, rfl, rfl, (show 0 ≤ k + 1 by omega), (show k + 1 ≤ (l.length : Int) by omega), fun i hi2 => ?_, rfl⟩
      · exact ⟨rfl, rfl, look_int rfl (wrap_i64 (by omega) (by omega)), trivial⟩
      · have hi2 : (i : Int) < k + 1 := hi2
        by_cases e : (i : Int) < k
        · exact hk i e
        · have : i = k.toNat := by omega
          subst this
          rw [List.getElem?_eq_getElem hi]
          intro e2; injection e2 with e2; exact g1 e2
  have g0 : ¬ k < (l.length : Int) := g0
  have hnm : n ∉ l := by
    intro hm
    obtain ⟨i, hi, e⟩ := List.getElem_of_mem hm
    exact hk i (by omega) (by rw [List.getElem?_eq_getElem hi, e])
  refine NewC_blk (fun p w3 hp h3 f3 s3 => ?_)
  have h3 : Blk w3 p t_int [.int .i64 n] := h3
  have own3 : w3.ownsRow base t_int 1 (.slice a l.length c) l.length (ints l) := own_keep own f3 (fun _ _ => id)
  have s3' := f3.size
  refine ApL T_ok (base := base) (xs := ints l) (news := [.int .i64 n]) rfl rfl rfl (by decide) own3 (by omega) h3 rfl rfl rfl (by omega) (show (l.length + 1) * 8 ≤ _ by omega) (fun v' w4 own4 f4 loc => ?_)
  have own4 : w4.ownsRow base t_int 1 v' (l.length + 1) (ints l ++ [.int .i64 n]) := own4
  have F4 : Fr (fun k => (Value.slice a l.length c).ownBlock = some k) w2 w4 := f3.noL f4
  have loc2 : v'.ownBlock = (Value.slice a l.length c).ownBlock ∨ ∀ k, v'.ownBlock = some k → w2.heap.size ≤ k := by
    rcases loc with h | h
    · exact .inl h
    · right; intro k e; rw [h] at e; injection e with e; omega
  rcases own_cases own4 with ⟨_, h0, _⟩ | ⟨g, cap, cur, hv', hg, hb, ht, hn⟩
  · omega
  subst hv'
  have clc := own_len own4 hb
  have e1 : ∀ j, j ≤ l.length → cur[j]? = (insP l n l.length)[j]?.map (Value.int .i64) := by
    intro j hj
    have : (cur.take ((l.length + 1) * 1))[j]? = (ints l ++ [.int .i64 n])[j]? := by rw [ht]
    rw [List.getElem?_take, if_pos (by omega)] at this
    rw [this, insP_get l n (Nat.le_refl _), List.getElem?_append, ints_len]
    by_cases h1 : j < l.length
    · rw [if_pos h1, if_pos h1]; unfold ints; rw [List.getElem?_map]
    · have : j = l.length := by omega
      subst this
      rw [if_neg h1, if_neg h1, if_pos rfl, Nat.sub_self]; rfl
  refine LoopC_intro (α := Int) (fun k => [(0, .slice (some ⟨g, 0, none⟩) (l.length + 1) cap), (6, .int .i64 k)])
    (fun m k w5 => Fr (fun k => k = g) w4 w5 ∧ 0 ≤ k ∧ k ≤ l.length ∧ (∃ c5, Blk w5 g t_int c5 ∧ c5.length = cur.length ∧ ∀ j, j ≤ l.length → c5[j]? = (insP l n k.toNat)[j]?.map (Value.int .i64)) ∧ (∀ x ∈ l.drop k.toNat, n < x) ∧ m = k.toNat)
    l.length (l.length : Int) ⟨rfl, look_int rfl (by rw [wrap_i64 (by omega) (by omega)]; omega), trivial⟩ ⟨Fr.refl _ _, by omega, Int.le_refl _, ⟨cur, hb, rfl, by rw [Int.toNat_natCast]; exact e1⟩, by rw [Int.toNat_natCast, List.drop_length]; intro x h; (cases h), (Int.toNat_natCast _).symm⟩ (fun m k w5 hJ => Kp ?_)
  obtain ⟨f5, k0, k1, ⟨c5, hb5, hl5, hc5⟩, hgt, hm⟩ := hJ
  have k0 : 0 ≤ k := k0
  have k1 : k ≤ l.length := k1
  have hc5 : ∀ j, j ≤ l.length → c5[j]? = (insP l n k.toNat)[j]?.map (Value.int .i64) := hc5
  have hgt : ∀ x ∈ l.drop k.toNat, n < x := hgt
  have hkl : k.toNat ≤ l.length := by omega
  have F5 : Fr (fun k => (Value.slice a l.length c).ownBlock = some k) w2 w5 := by
    rcases loc2 with h | h
    · exact F4.trans f5 (fun _ _ e => e) (fun k _ e => by rw [← h, e]; rfl)
    · exact F4.trans f5 (fun _ _ e => e) (fun k hk e => by have := h g rfl; omega)
  have fin : (∀ x ∈ l.take k.toNat, x < n) → (∃ l', Own w5 base (.slice (some ⟨g, 0, none⟩) (l.length + 1) cap) l' ∧ l'.length ≤ l.length + 1 ∧ l'.Pairwise (fun x y => x < y) ∧ ∀ x, x ∈ l' ↔ x ∈ l ∨ x = n) := by
    intro h
    have hil := insP_len l n hkl
    refine ⟨insP l n k.toNat, ?_, by omega, insP_strict hs h hgt, insP_mem l n k.toNat⟩
    unfold Own
    rw [hil]
    refine own_over own4 hb hb5 hl5 (Nat.le_refl _) ?_
    rw [Nat.mul_one]
    apply List.ext_getElem?
    intro j
    rw [List.getElem?_take]
    by_cases hj : j < l.length + 1
    · rw [if_pos hj, hc5 j (by omega)]; unfold ints; rw [List.getElem?_map]
    · rw [if_neg hj, List.getElem?_eq_none (by rw [ints_len]; omega)]
  have hk0 : k.toNat < l.length + 1 := by omega
  have ci : c5[0 + k.toNat * 1]? = some (.int .i64 n) := by
    rw [Nat.zero_add, Nat.mul_one, hc5 _ (by omega), insP_get l n hkl, if_neg (by omega), if_pos rfl]; rfl
  refine AnyC_mid (α := Bool) (fun r => [(0, .slice (some ⟨g, 0, none⟩) (l.length + 1) cap), (6, .int .i64 k), (41, .bool r)]) (fun r w' => w' = w5.drew ∧ (r = true → 0 < k ∧ ∃ y, l[k.toNat - 1]? = some y ∧ n < y) ∧ (r = false → ∀ x ∈ l.take k.toNat, x < n)) ?_ (fun r w6 hw6 => Kp ?_)
  · refine AnyC_lex T_ok mixed (by kernel_rfl) (by kernel_rfl) (Kp ?_)
    refine Br_dec (fun g1 => ?_) (fun g1 => ?_)
    · have g1 : k > 0 := g1
      have ek : IntKind.i64.wrap (k - 1) = k - 1 := wrap_i64 (by omega) (by omega)
      have hy : l[k.toNat - 1]? = some l[k.toNat - 1] := List.getElem?_eq_getElem (by omega)
      have cy : c5[0 + (k - 1).toNat * 1]? = some (.int .i64 l[k.toNat - 1]) := by
        rw [Nat.zero_add, Nat.mul_one, hc5 _ (by omega), insP_get l n hkl, if_pos (by omega), show (k - 1).toNat = k.toNat - 1 by omega, hy]; rfl
      refine Sd_intro (show 0 ≤ IntKind.i64.wrap (k - 1) ∧ IntKind.i64.wrap (k - 1) < ((l.length + 1 : Nat) : Int) by omega) ?_
      refine LdS_idx hb5 (v := .int .i64 l[k.toNat - 1]) (by rw [ek]; exact cy) ?_
      refine Sd_intro (show 0 ≤ k ∧ k < ((l.length + 1 : Nat) : Int) by omega) ?_
      refine LdS_idx hb5 ci ?_
      refine ⟨decide (l[k.toNat - 1] > n), ⟨rfl, rfl, rfl, trivial⟩, rfl, fun h => ⟨g1, _, hy, ?_⟩, fun h x hx => ?_⟩
      · have := of_decide_eq_true h; omega
      · have h := of_decide_eq_false h
        obtain ⟨j, hj, ej⟩ := List.getElem_of_mem hx
        rw [List.length_take] at hj
        rw [List.getElem_take] at ej
        have h5 : x ≤ l[k.toNat - 1] := by
          by_cases e : j = k.toNat - 1
          · subst e; omega
          · have := List.pairwise_iff_getElem.1 hs j (k.toNat - 1) (by omega) (by omega) (by omega)
            omega
        have h6 : l[k.toNat - 1] ≠ n := fun e => hnm (by rw [← e]; exact List.getElem_mem _)
        omega
    · have g1 : ¬ k > 0 := g1
      refine ⟨false, ⟨rfl, rfl, rfl, trivial⟩, rfl, fun h => (by cases h), fun _ x hx => ?_⟩
      rw [show k.toNat = 0 by omega] at hx
      cases hx
  obtain ⟨rfl, ht1, ht2⟩ := hw6
  have hb6 := hb5.keep (Fr.drew w5) id
  refine Br_intro (fun hr => ?_) (fun hr => ?_)
  · obtain ⟨kp, y, hy, hny⟩ := ht1 hr
    have ek : IntKind.i64.wrap (k - 1) = k - 1 := wrap_i64 (by omega) (by omega)
    have cy : c5[0 + (k - 1).toNat * 1]? = some (.int .i64 y) := by
      rw [Nat.zero_add, Nat.mul_one, hc5 _ (by omega), insP_get l n hkl, if_pos (by omega), show (k - 1).toNat = k.toNat - 1 by omega, hy]; rfl
    refine Sd_intro (show 0 ≤ k ∧ k < ((l.length + 1 : Nat) : Int) by omega) ?_
    refine LdC_idx hb6 ci ?_
    refine Sd_intro (show 0 ≤ IntKind.i64.wrap (k - 1) ∧ IntKind.i64.wrap (k - 1) < ((l.length + 1 : Nat) : Int) by omega) ?_
    refine LdC_idx hb6 (v := .int .i64 y) (by rw [ek]; exact cy) ?_
    refine Sd_intro (show 0 ≤ k ∧ k < ((l.length + 1 : Nat) : Int) by omega) ?_
    refine StC_idx hb6 rfl ci (fun w7 h7 f7 s7 => ?_)
    refine Sd_intro (show 0 ≤ IntKind.i64.wrap (k - 1) ∧ IntKind.i64.wrap (k - 1) < ((l.length + 1 : Nat) : Int) by omega) ?_
    refine StC_idx h7 rfl (u := .int .i64 y) (by rw [ek, List.getElem?_set_ne (show 0 + k.toNat * 1 ≠ 0 + (k - 1).toNat * 1 by omega)]; exact cy) (fun w8 h8 f8 s8 => ?_)
    rw [ek] at h8
    refine ⟨(k - 1).toNat, _, by omega, ?_, k - 1, rfl, (f5.trans (f7.drewL) (fun _ _ e => e) (fun _ _ e => e)).trans f8 (fun _ _ e => e) (fun _ _ e => e), (show 0 ≤ k - 1 by omega), (show k - 1 ≤ (l.length : Int) by omega), ⟨_, h8, by rw [List.length_set, List.length_set]; exact hl5, fun j hj => ?_⟩, fun x hx => ?_, rfl⟩
    · exact ⟨rfl, look_int rfl ek, trivial⟩
    · rw [insP_get l n (by omega), List.getElem?_set, List.getElem?_set, hc5 j hj, insP_get l n hkl]
      have hcl : l.length + 1 ≤ c5.length := by omega
      have e2 : (k - 1).toNat = k.toNat - 1 := by omega
      rw [e2]
      simp only [Nat.zero_add, Nat.mul_one, List.length_set]
      by_cases h1 : k.toNat - 1 = j
      · rw [if_pos h1, if_pos (by omega), if_neg (by omega), if_pos (by omega)]; rfl
      · rw [if_neg h1]
        by_cases h2 : k.toNat = j
        · rw [if_pos h2, if_pos (by omega), if_neg (by omega), if_neg (by omega)]
          rw [show j - 1 = k.toNat - 1 by omega, hy]; rfl
        · rw [if_neg h2]
          by_cases h3 : j < k.toNat - 1
          · rw [if_pos (by omega), if_pos (by omega)]
          · rw [if_neg (by omega), if_neg (by omega), if_neg (by omega), if_neg (by omega)]
    · rw [show (k - 1).toNat = k.toNat - 1 by omega, List.drop_eq_getElem_cons (by omega)] at hx
      rcases List.mem_cons.1 hx with h | h
      · rw [List.getElem?_eq_getElem (by omega)] at hy
        injection hy with hy
        omega
      · rw [show k.toNat - 1 + 1 = k.toNat by omega] at h
        exact hgt x h
  · have F6 := F5.drew'
    refine ⟨?_, loc2, F6⟩
    obtain ⟨l', o', r'⟩ := fin (ht2 hr)
    exact ⟨l', o'.keep (Fr.drew w5) (fun _ _ => id), r'⟩
end Go.Proofs.Ytfokdnmidfmddaa
