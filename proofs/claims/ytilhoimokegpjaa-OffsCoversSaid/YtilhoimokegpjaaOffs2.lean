/- Layer 6 (offs): the closures. -/
import Derived.Test.YtilhoimokegpjaaOffs
namespace Go.Proofs.Ytilhoimokegpjaa
open Go.Vc

theorem Put1_spec {b r tb ta : Nat} {words card at_ : Int} {back : List Int} (i : Int) (w : World) (h : IsOffs w b r words card back) (ht : Blk w tb t_p_offs_Table [.pointer (some ⟨b, 0, none⟩)])
    (ha : Blk w ta t_int [.int .i64 at_]) (h0 : 0 ≤ i) (hi : i < back.length) (hr : 0 ≤ at_) (h1 : at_ ≤ i * card) :
    CallC Pr f_offs_Table_Put_1 [.int .i64 i, .pointer (some ⟨tb, 0, none⟩), .pointer (some ⟨ta, 0, none⟩)] w (fun _ w' => IsOffs w' b r words card (back.set i.toNat (i * card - at_ + 1)) ∧ Fr (· = r) w w') := by
  refine call_sound T_ok fun_offs_Table_Put_1 rfl (by kernel_rfl) rfl ?_
  refine AnyC_store T_ok mixed (by kernel_rfl) (by kernel_rfl) ?_
  refine LdS_blk ht rfl ?_
  refine LdS_blk h.tab rfl ?_
  refine LdS_blk ht rfl ?_
  refine LdS_blk h.tab rfl ?_
  refine LdS_blk ha rfl ?_
  refine Sd_intro ⟨by omega, by omega⟩ ?_
  have hi' : i.toNat < back.length := by omega
  refine ⟨?_, trivial⟩
  refine StC_idx h.row rfl (by simp only [Nat.mul_one, Nat.zero_add]; exact u32s_get hi') (fun w' hb hf _ => ?_)
  have hf := hf.drewL
  have hm := mul_bd (i := i) (n := back.length) (c := card) (by omega) (by omega) h.c0
  have hn := h.n0
  have hw := h.w1
  refine ⟨h.set _ _ ?_ hf, hf⟩
  have e : IntKind.u32.wrap (IntKind.u32.wrap (IntKind.i64.wrap (IntKind.i64.wrap (i * card) - at_)) + 1) = i * card - at_ + 1 := by
    rw [wrap_i64 (n := i * card) (by omega) (by omega), wrap_i64 (by omega) (by omega), wrap_u32 (n := i * card - at_) (by omega) (by omega), wrap_u32 (by omega) (by omega)]
  simp only [Nat.mul_one, Nat.zero_add] at hb
  rw [← u32s_set, ← e]
  exact hb
theorem Drop1_spec {b r tb : Nat} {words card : Int} {back : List Int} (i : Int) (w : World) (h : IsOffs w b r words card back) (ht : Blk w tb t_p_offs_Table [.pointer (some ⟨b, 0, none⟩)])
    (h0 : 0 ≤ i) (hi : i < back.length) :
    CallC Pr f_offs_Table_Drop_1 [.int .i64 i, .pointer (some ⟨tb, 0, none⟩)] w (fun _ w' => IsOffs w' b r words card (back.set i.toNat 0) ∧ Fr (· = r) w w') := by
  refine call_sound T_ok fun_offs_Table_Drop_1 rfl (by kernel_rfl) rfl ?_
  refine LdC_blk ht rfl ?_
  refine LdC_blk h.tab rfl ?_
  refine Sd_intro ⟨by omega, by omega⟩ ?_
  have hi' : i.toNat < back.length := by omega
  refine StC_idx h.row rfl (by simp only [Nat.mul_one, Nat.zero_add]; exact u32s_get hi') (fun w' hb hf _ => ?_)
  refine ⟨h.set _ _ ?_ hf, hf⟩
  simp only [Nat.mul_one, Nat.zero_add] at hb
  rw [← u32s_set]
  exact hb

/-- Going through the cards. -/
theorem cards_spec {b r : Nat} {words card : Int} (from_ to_ : Int) (f : Int → Int) (w : World) (back : List Int) (h : IsOffs w b r words card back)
    (h0 : 0 ≤ from_) (h1 : from_ ≤ to_) (h2 : to_ ≤ words) (hc : card ≤ 4194304) {cl : Nat} (hcl : cl = f_offs_Table_Put_1 ∨ cl = f_offs_Table_Drop_1) {env : List Value}
    (step : ∀ (w1 : World) (bk : List Int) (i : Int), IsOffs w1 b r words card bk → Fr (· = r) w w1 → 0 ≤ i → i < bk.length → from_ ≤ i * card → i * card < to_ →
      CallC Pr cl (.int .i64 i :: env) w1 (fun _ w2 => IsOffs w2 b r words card (bk.set i.toNat (f i)) ∧ Fr (· = r) w1 w2)) :
    CallC Pr f_offs_Table_cards [.pointer (some ⟨b, 0, none⟩), .int .i64 from_, .int .i64 to_, .func (.func cl) #[] env.toArray] w
      (fun _ w' => ∃ bk, IsOffs w' b r words card bk ∧ bk.length = back.length ∧ (∀ k : Nat, k < back.length → bk[k]? = if from_ ≤ (k : Int) * card ∧ (k : Int) * card < to_ then some (f k) else back[k]?) ∧ Fr (· = r) w w') := by
  have hw := h.w1
  have hn := h.n0
  have hcd := h.c0
  rcases hcl with rfl | rfl
  all_goals
    refine call_sound T_ok fun_offs_Table_cards rfl (by kernel_rfl) rfl ?_
    refine AnyC_lex T_ok mixed (by kernel_rfl) (by kernel_rfl) ?_
    refine LdS_blk h.tab rfl ?_
    refine LdS_blk h.tab rfl ?_
    refine Sd_intro (by omega) ?_
    have e : IntKind.i64.wrap (Int.tdiv (IntKind.i64.wrap (IntKind.i64.wrap (from_ + card) - 1)) card) = (from_ + card - 1) / card := by
      rw [wrap_i64 (n := from_ + card) (by omega) (by omega), wrap_i64 (n := from_ + card - 1) (by omega) (by omega), tdiv_eq (by omega)]
      have := Int.ediv_nonneg (a := from_ + card - 1) (b := card) (by omega) (by omega)
      have := Int.ediv_le_self (a := from_ + card - 1) card (by omega)
      rw [wrap_i64 (by omega) (by omega)]
    have d1 : 0 ≤ (from_ + card - 1) / card := Int.ediv_nonneg (by omega) (by omega)
    have d2 : from_ ≤ (from_ + card - 1) / card * card := by
      have := Int.mul_ediv_add_emod (from_ + card - 1) card
      have := Int.emod_lt_of_pos (from_ + card - 1) (show 0 < card by omega)
      have := Int.mul_comm card ((from_ + card - 1) / card)
      omega
    have d3 : ∀ k : Int, k < (from_ + card - 1) / card → k * card < from_ := by
      intro k hk
      have a1 := Int.ediv_mul_le (from_ + card - 1) (show card ≠ 0 by omega)
      have a2 : k * card ≤ ((from_ + card - 1) / card - 1) * card := Int.mul_le_mul_of_nonneg_right (by omega) (by omega)
      rw [Int.sub_mul] at a2
      omega
    have d4 : (from_ + card - 1) / card ≤ 4194304 * 2 := by
      have := Int.ediv_le_self (a := from_ + card - 1) card (by omega)
      omega
    refine LoopC_intro (fun c : Int => [(0, .pointer (some ⟨b, 0, none⟩)), (2, .int .i64 to_), (3, .func (.func _) #[] env.toArray), (8, .int .i64 c)])
      (fun m c w1 => ∃ bk, IsOffs w1 b r words card bk ∧ bk.length = back.length ∧ (∀ k : Nat, k < back.length → bk[k]? = if from_ ≤ (k : Int) * card ∧ (k : Int) * card < to_ ∧ (k : Int) < c then some (f k) else back[k]?) ∧ Fr (· = r) w w1 ∧ 0 ≤ c ∧ c ≤ 8388608 ∧ from_ ≤ c * card ∧ m = (8388609 - c).toNat)
      (8388609 - (from_ + card - 1) / card).toNat ((from_ + card - 1) / card) ⟨rfl, rfl, rfl, look_int rfl e, trivial⟩
      ⟨back, h.keep (Fr.drew w) id id, rfl, fun k hk => (by rw [if_neg (fun hh => by have := d3 k hh.2.2; omega)]), (Fr.drew w).weak (fun _ _ e => e.elim), d1, by omega, d2, rfl⟩ ?_
    rintro m c w1 ⟨bk, hI, hl, hb, hF, c0, c1, c2, hm⟩
    refine LdC_blk hI.tab rfl ?_
    refine Br_dec (fun g0 => ?_) (fun g0 => ?_)
    · refine LdC_blk hI.tab rfl ?_
      have m1 := mul_bd (i := c) (n := bk.length) (c := card) c0 (by omega) hcd
      have n1 := hI.n0
      have ew : IntKind.i64.wrap (c * card) = c * card := wrap_i64 (by omega) (by omega)
      refine Br_dec (fun g1 => ?_) (fun g1 => ?_)
      · rw [ew] at g1
        refine CallC_intro (step w1 bk c hI hF c0 g0 c2 g1) (fun v w2 ⟨hJ, hG⟩ => ?_)
        have e1 : IntKind.i64.wrap (c + 1) = c + 1 := wrap_i64 (by omega) (by omega)
        have e2 : (c + 1) * card = c * card + card := by rw [Int.add_mul, Int.one_mul]
        have e3 := hI.len
        refine ⟨(8388609 - (c + 1)).toNat, _, by omega, ?_, c + 1, rfl, _, hJ, by rw [List.length_set]; exact hl, fun k hk => ?_, hF.same hG, by omega, by omega, by omega, rfl⟩
        · exact ⟨rfl, rfl, rfl, look_int rfl e1, trivial⟩
        rw [List.getElem?_set]
        by_cases hkc : c.toNat = k
        · have hk' : (k : Int) = c := by omega
          rw [if_pos hkc, if_pos (by omega), hk', if_pos ⟨c2, g1, by omega⟩]
        · rw [if_neg hkc, hb k hk]
          have : ((k : Int) < c) = ((k : Int) < c + 1) := by apply propext; omega
          simp only [this]
      · rw [ew] at g1
        refine ⟨bk, hI, hl, fun k hk => ?_, hF⟩
        rw [hb k hk]
        have : ((k : Int) * card < to_ ∧ (k : Int) < c) = ((k : Int) * card < to_) := by
          apply propext
          refine ⟨fun h => h.1, fun h => ⟨h, ?_⟩⟩
          by_cases h' : (k : Int) < c
          · exact h'
          · have := Int.mul_le_mul_of_nonneg_right (show c ≤ (k : Int) by omega) (show 0 ≤ card by omega)
            omega
        simp only [this]
    · refine ⟨bk, hI, hl, fun k hk => ?_, hF⟩
      rw [hb k hk]
      have : ((k : Int) * card < to_ ∧ (k : Int) < c) = ((k : Int) * card < to_) := by
        apply propext
        exact ⟨fun h => h.1, fun h => ⟨h, by omega⟩⟩
      simp only [this]
end Go.Proofs.Ytilhoimokegpjaa
