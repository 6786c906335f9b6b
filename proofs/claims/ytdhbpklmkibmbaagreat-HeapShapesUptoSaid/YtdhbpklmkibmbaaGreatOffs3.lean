/- Layer 6 (offs): what its functions do, one contract a function. -/
import Derived.Test.YtdhbpklmkibmbaaGreatVcT
import Derived.Test.YtdhbpklmkibmbaaGreatVcI
namespace Go.Proofs.YtdhbpklmkibmbaaGreat
open Go.Vc

def u32s (l : List Int) : List Value := l.map (.int .u32)
theorem u32s_get {l : List Int} {k : Nat} (h : k < l.length) : (u32s l)[k]? = some (.int .u32 l[k]) := by simp [u32s, h]
theorem u32s_set (l : List Int) (k : Nat) (v : Int) : (u32s l).set k (.int .u32 v) = u32s (l.set k v) := by simp [u32s, List.map_set]
theorem u32s_len (l : List Int) : (u32s l).length = l.length := by simp [u32s]

/-- An offset table: its struct at block b, its row at block r. -/
structure IsOffs (w : World) (b r : Nat) (words card : Int) (back : List Int) : Prop where
  tab : Blk w b t_offs_Table [.int .i64 words, .int .i64 card, .slice (some ⟨r, 0, none⟩) back.length back.length]
  row : Blk w r t_uint32 (u32s back)
  w0 : 0 ≤ words
  w1 : words ≤ 4194304
  c0 : 1 ≤ card
  n0 : (back.length : Int) * card ≤ words
theorem IsOffs.keep {w w' : World} {b r : Nat} {words card : Int} {back : List Int} {F : Nat → Prop} (h : IsOffs w b r words card back) (f : Fr F w w') (hb : ¬ F b) (hr : ¬ F r) : IsOffs w' b r words card back :=
  ⟨h.tab.keep f hb, h.row.keep f hr, h.w0, h.w1, h.c0, h.n0⟩
theorem IsOffs.ne {w : World} {b r : Nat} {words card : Int} {back : List Int} (h : IsOffs w b r words card back) : b ≠ r := by
  rintro rfl
  have := (h.tab.inj h.row).2
  cases this
theorem IsOffs.set {w w' : World} {b r : Nat} {words card : Int} {back : List Int} (h : IsOffs w b r words card back) (k : Nat) (v : Int)
    (h1 : Blk w' r t_uint32 (u32s (back.set k v))) (f : Fr (· = r) w w') : IsOffs w' b r words card (back.set k v) :=
  ⟨by rw [List.length_set]; exact h.tab.keep f h.ne, h1, h.w0, h.w1, h.c0, by rw [List.length_set]; exact h.n0⟩
theorem IsOffs.len {w : World} {b r : Nat} {words card : Int} {back : List Int} (h : IsOffs w b r words card back) : (back.length : Int) ≤ 4194304 := by
  have h1 := h.n0
  have h2 := h.c0
  have h3 := h.w1
  have : (back.length : Int) * 1 ≤ (back.length : Int) * card := Int.mul_le_mul_of_nonneg_left h2 (by omega)
  omega
theorem mul_bd {i n c : Int} (h0 : 0 ≤ i) (h1 : i ≤ n) (hc : 1 ≤ c) : 0 ≤ i * c ∧ i * c ≤ n * c :=
  ⟨Int.mul_nonneg h0 (by omega), Int.mul_le_mul_of_nonneg_right h1 (by omega)⟩

theorem row_nil (i j : Int) (w : World) : CallC Pr f_offs_Table_row [.pointer none, .int .i64 i, .int .i64 j] w (fun v w' => v = .int .i64 1 ∧ Fr No w w') := by
  refine call_sound T_ok fun_offs_Table_row rfl (by kernel_rfl) rfl (Kp ?_)
  exact ⟨rfl, Fr.refl _ _⟩
theorem row_spec {b r : Nat} {words card : Int} {back : List Int} (i j : Int) (w : World) (h : IsOffs w b r words card back) :
    CallC Pr f_offs_Table_row [.pointer (some ⟨b, 0, none⟩), .int .i64 i, .int .i64 j] w (fun v w' => v = .int .i64 (if i < 0 ∨ j < i ∨ words < j then 2 else 0) ∧ Fr No w w') := by
  refine call_sound T_ok fun_offs_Table_row rfl (by kernel_rfl) rfl (Kp ?_)
  refine Br_dec (fun h0 => ?_) (fun h0 => ?_)
  · refine ⟨?_, Fr.refl _ _⟩
    rw [if_pos (.inl h0)]; rfl
  · refine Br_dec (fun h1 => ?_) (fun h1 => ?_)
    · refine ⟨?_, Fr.refl _ _⟩
      rw [if_pos (.inr (.inl h1))]; rfl
    · refine LdC_blk h.tab rfl ?_
      refine Br_dec (fun h2 => ?_) (fun h2 => ?_)
      · refine ⟨?_, Fr.refl _ _⟩
        rw [if_pos (.inr (.inr (by omega)))]; rfl
      · refine ⟨?_, Fr.refl _ _⟩
        rw [if_neg (by omega)]; rfl

theorem First_nil (i : Int) (w : World) : CallC Pr f_offs_Table_First [.pointer none, .int .i64 i] w (fun v w' => v = .tuple #[.int .i64 0, .int .i64 1] ∧ Fr No w w') := by
  refine call_sound T_ok fun_offs_Table_First rfl (by kernel_rfl) rfl (Kp ?_)
  exact ⟨rfl, Fr.refl _ _⟩
theorem First_out {b r : Nat} {words card : Int} {back : List Int} (i : Int) (w : World) (h : IsOffs w b r words card back) (hi : i < 0 ∨ (back.length : Int) ≤ i) :
    CallC Pr f_offs_Table_First [.pointer (some ⟨b, 0, none⟩), .int .i64 i] w (fun v w' => v = .tuple #[.int .i64 0, .int .i64 2] ∧ Fr No w w') := by
  refine call_sound T_ok fun_offs_Table_First rfl (by kernel_rfl) rfl (Kp ?_)
  refine Br_dec (fun h0 => ?_) (fun h0 => ?_)
  · exact ⟨rfl, Fr.refl _ _⟩
  · refine LdC_blk h.tab rfl ?_
    refine Br_dt (show i ≥ (back.length : Int) by omega) ?_
    exact ⟨rfl, Fr.refl _ _⟩
theorem u32s_get? {l : List Int} {k : Nat} {x : Int} (h : l[k]? = some x) : (u32s l)[k]? = some (.int .u32 x) := by simp [u32s, h]
theorem lt_of_get? {α : Type} {l : List α} {k : Nat} {x : α} (h : l[k]? = some x) : k < l.length := by
  rcases Nat.lt_or_ge k l.length with h' | h'
  · exact h'
  · rw [List.getElem?_eq_none h'] at h; cases h
theorem First_in {b r : Nat} {words card : Int} {back : List Int} (i x : Int) (w : World) (h : IsOffs w b r words card back) (h0 : 0 ≤ i) (hx : back[i.toNat]? = some x) (hb : 0 ≤ x ∧ x ≤ 4294967295) :
    CallC Pr f_offs_Table_First [.pointer (some ⟨b, 0, none⟩), .int .i64 i] w (fun v w' => v = (if x = 0 then .tuple #[.int .i64 0, .int .i64 5] else .tuple #[.int .i64 (i * card - (x - 1)), .int .i64 0]) ∧ Fr No w w') := by
  have hl := lt_of_get? hx
  refine call_sound T_ok fun_offs_Table_First rfl (by kernel_rfl) rfl (Kp ?_)
  refine Br_df (show ¬ i < 0 by omega) ?_
  refine LdC_blk h.tab rfl ?_
  refine Br_df (show ¬ i ≥ (back.length : Int) by omega) ?_
  refine LdC_blk h.tab rfl ?_
  refine Sd_intro ⟨by omega, by omega⟩ ?_
  refine LdC_idx h.row (by simp only [Nat.mul_one, Nat.zero_add]; exact u32s_get? hx) ?_
  refine Br_dec (fun h0 => ?_) (fun h0 => ?_)
  · exact ⟨by rw [if_pos h0]; rfl, Fr.refl _ _⟩
  · refine AnyC_lex T_ok mixed (by kernel_rfl) (by kernel_rfl) ?_
    refine LdS_blk h.tab rfl ?_
    refine LdS_blk h.tab rfl ?_
    refine Sd_intro ⟨by omega, by omega⟩ ?_
    refine LdS_idx h.row (by simp only [Nat.mul_one, Nat.zero_add]; exact u32s_get? hx) ?_
    refine ⟨?_, Fr.drew _⟩
    have hm := mul_bd (i := i) (n := back.length) (c := card) (by omega) (by omega) h.c0
    have hn := h.n0
    have hw := h.w1
    rw [if_neg h0]
    show Value.tuple #[.int .i64 (IntKind.i64.wrap (IntKind.i64.wrap (i * card) - IntKind.i64.wrap (IntKind.u32.wrap (x - 1)))), .int .i64 0] = _
    rw [wrap_u32 (by omega) (by omega), wrap_i64 (n := x - 1) (by omega) (by omega), wrap_i64 (n := i * card) (by omega) (by omega), wrap_i64 (by omega) (by omega)]
end Go.Proofs.YtdhbpklmkibmbaaGreat
/- Layer 6 (offs): the closures. -/
namespace Go.Proofs.YtdhbpklmkibmbaaGreat
open Go.Vc

theorem Put1_spec {b r tb ta : Nat} {words card at_ : Int} {back : List Int} (i : Int) (w : World) (h : IsOffs w b r words card back) (ht : Blk w tb t_p_offs_Table [.pointer (some ⟨b, 0, none⟩)])
    (ha : Blk w ta t_int [.int .i64 at_]) (h0 : 0 ≤ i) (hi : i < back.length) (hr : 0 ≤ at_) (h1 : at_ ≤ i * card) :
    CallC Pr f_offs_Table_Put_1 [.int .i64 i, .pointer (some ⟨tb, 0, none⟩), .pointer (some ⟨ta, 0, none⟩)] w (fun _ w' => IsOffs w' b r words card (back.set i.toNat (i * card - at_ + 1)) ∧ Fr (· = r) w w') := by
  refine call_sound T_ok fun_offs_Table_Put_1 rfl (by kernel_rfl) rfl (Kp ?_)
  refine AnyC_store T_ok mixed (by kernel_rfl) (by kernel_rfl) ?_
  refine LdS_blk ht rfl ?_
  refine LdS_blk h.tab rfl ?_
  refine LdS_blk ht rfl ?_
  refine LdS_blk h.tab rfl ?_
  refine LdS_blk ha rfl ?_
  refine Sd_intro ⟨by omega, by omega⟩ ?_
  have hi' : i.toNat < back.length := by omega
  refine ⟨?_, trivial⟩
  refine StC_idx h.row rfl (by simp only [Nat.mul_one, Nat.zero_add]; exact u32s_get hi') (fun w' hb hf _ => ?_)
  have hf := hf.drewL
  have hm := mul_bd (i := i) (n := back.length) (c := card) (by omega) (by omega) h.c0
  have hn := h.n0
  have hw := h.w1
  refine ⟨h.set _ _ ?_ hf, hf⟩
  have e : IntKind.u32.wrap (IntKind.u32.wrap (IntKind.i64.wrap (IntKind.i64.wrap (i * card) - at_)) + 1) = i * card - at_ + 1 := by
    rw [wrap_i64 (n := i * card) (by omega) (by omega), wrap_i64 (by omega) (by omega), wrap_u32 (n := i * card - at_) (by omega) (by omega), wrap_u32 (by omega) (by omega)]
  simp only [Nat.mul_one, Nat.zero_add] at hb
  rw [← u32s_set, ← e]
  exact hb
theorem Drop1_spec {b r tb : Nat} {words card : Int} {back : List Int} (i : Int) (w : World) (h : IsOffs w b r words card back) (ht : Blk w tb t_p_offs_Table [.pointer (some ⟨b, 0, none⟩)])
    (h0 : 0 ≤ i) (hi : i < back.length) :
    CallC Pr f_offs_Table_Drop_1 [.int .i64 i, .pointer (some ⟨tb, 0, none⟩)] w (fun _ w' => IsOffs w' b r words card (back.set i.toNat 0) ∧ Fr (· = r) w w') := by
  refine call_sound T_ok fun_offs_Table_Drop_1 rfl (by kernel_rfl) rfl (Kp ?_)
  refine LdC_blk ht rfl ?_
  refine LdC_blk h.tab rfl ?_
  refine Sd_intro ⟨by omega, by omega⟩ ?_
  have hi' : i.toNat < back.length := by omega
  refine StC_idx h.row rfl (by simp only [Nat.mul_one, Nat.zero_add]; exact u32s_get hi') (fun w' hb hf _ => ?_)
  refine ⟨h.set _ _ ?_ hf, hf⟩
  simp only [Nat.mul_one, Nat.zero_add] at hb
  rw [← u32s_set]
  exact hb

/-- Going through the cards. -/
theorem cards_spec {b r : Nat} {words card : Int} (from_ to_ : Int) (f : Int → Int) (w : World) (back : List Int) (h : IsOffs w b r words card back)
    (h0 : 0 ≤ from_) (h1 : from_ ≤ to_) (h2 : to_ ≤ words) (hc : card ≤ 4194304) {cl : Nat} (hcl : cl = f_offs_Table_Put_1 ∨ cl = f_offs_Table_Drop_1) {env : List Value}
    (step : ∀ (w1 : World) (bk : List Int) (i : Int), IsOffs w1 b r words card bk → Fr (· = r) w w1 → 0 ≤ i → i < bk.length → from_ ≤ i * card → i * card < to_ →
      CallC Pr cl (.int .i64 i :: env) w1 (fun _ w2 => IsOffs w2 b r words card (bk.set i.toNat (f i)) ∧ Fr (· = r) w1 w2)) :
    CallC Pr f_offs_Table_cards [.pointer (some ⟨b, 0, none⟩), .int .i64 from_, .int .i64 to_, .func (.func cl) #[] env.toArray] w
      (fun _ w' => ∃ bk, IsOffs w' b r words card bk ∧ bk.length = back.length ∧ (∀ k : Nat, k < back.length → bk[k]? = if from_ ≤ (k : Int) * card ∧ (k : Int) * card < to_ then some (f k) else back[k]?) ∧ Fr (· = r) w w') := by
  have hw := h.w1
  have hn := h.n0
  have hcd := h.c0
  rcases hcl with rfl | rfl
  all_goals
    refine call_sound T_ok fun_offs_Table_cards rfl (by kernel_rfl) rfl (Kp ?_)
    refine AnyC_lex T_ok mixed (by kernel_rfl) (by kernel_rfl) ?_
    refine LdS_blk h.tab rfl ?_
    refine LdS_blk h.tab rfl ?_
    refine Sd_intro (by omega) ?_
    have e : IntKind.i64.wrap (Int.tdiv (IntKind.i64.wrap (IntKind.i64.wrap (from_ + card) - 1)) card) = (from_ + card - 1) / card := by
      rw [wrap_i64 (n := from_ + card) (by omega) (by omega), wrap_i64 (n := from_ + card - 1) (by omega) (by omega), tdiv_eq (by omega)]
      have := Int.ediv_nonneg (a := from_ + card - 1) (b := card) (by omega) (by omega)
      have := Int.ediv_le_self (a := from_ + card - 1) card (by omega)
      rw [wrap_i64 (by omega) (by omega)]
    have d1 : 0 ≤ (from_ + card - 1) / card := Int.ediv_nonneg (by omega) (by omega)
    have d2 : from_ ≤ (from_ + card - 1) / card * card := by
      have := Int.mul_ediv_add_emod (from_ + card - 1) card
      have := Int.emod_lt_of_pos (from_ + card - 1) (show 0 < card by omega)
      have := Int.mul_comm card ((from_ + card - 1) / card)
      omega
    have d3 : ∀ k : Int, k < (from_ + card - 1) / card → k * card < from_ := by
      intro k hk
      have a1 := Int.ediv_mul_le (from_ + card - 1) (show card ≠ 0 by omega)
      have a2 : k * card ≤ ((from_ + card - 1) / card - 1) * card := Int.mul_le_mul_of_nonneg_right (by omega) (by omega)
      rw [Int.sub_mul] at a2
      omega
    have d4 : (from_ + card - 1) / card ≤ 4194304 * 2 := by
      have := Int.ediv_le_self (a := from_ + card - 1) card (by omega)
      omega
    refine LoopC_intro (fun c : Int => [(0, .pointer (some ⟨b, 0, none⟩)), (2, .int .i64 to_), (3, .func (.func _) #[] env.toArray), (8, .int .i64 c)])
      (fun m c w1 => ∃ bk, IsOffs w1 b r words card bk ∧ bk.length = back.length ∧ (∀ k : Nat, k < back.length → bk[k]? = if from_ ≤ (k : Int) * card ∧ (k : Int) * card < to_ ∧ (k : Int) < c then some (f k) else back[k]?) ∧ Fr (· = r) w w1 ∧ 0 ≤ c ∧ c ≤ 8388608 ∧ from_ ≤ c * card ∧ m = (8388609 - c).toNat)
      (8388609 - (from_ + card - 1) / card).toNat ((from_ + card - 1) / card) ⟨rfl, rfl, rfl, look_int rfl e, trivial⟩
      ⟨back, h.keep (Fr.drew w) id id, rfl, fun k hk => (by rw [if_neg (fun hh => by have := d3 k hh.2.2; omega)]), (Fr.drew w).weak (fun _ _ e => e.elim), d1, by omega, d2, rfl⟩ ?_
    rintro m c w1 ⟨bk, hI, hl, hb, hF, c0, c1, c2, hm⟩
    refine LdC_blk hI.tab rfl ?_
    refine Br_dec (fun g0 => ?_) (fun g0 => ?_)
    · refine LdC_blk hI.tab rfl ?_
      have m1 := mul_bd (i := c) (n := bk.length) (c := card) c0 (by omega) hcd
      have n1 := hI.n0
      have ew : IntKind.i64.wrap (c * card) = c * card := wrap_i64 (by omega) (by omega)
      refine Br_dec (fun g1 => ?_) (fun g1 => ?_)
      · rw [ew] at g1
        refine CallC_intro (step w1 bk c hI hF c0 g0 c2 g1) (fun v w2 ⟨hJ, hG⟩ => ?_)
        have e1 : IntKind.i64.wrap (c + 1) = c + 1 := wrap_i64 (by omega) (by omega)
        have e2 : (c + 1) * card = c * card + card := by rw [Int.add_mul, Int.one_mul]
        have e3 := hI.len
        refine ⟨(8388609 - (c + 1)).toNat, _, by omega, ?_, c + 1, rfl, _, hJ, by rw [List.length_set]; exact hl, fun k hk => ?_, hF.same hG, by omega, by omega, by omega, rfl⟩
        · exact ⟨rfl, rfl, rfl, look_int rfl e1, trivial⟩
        rw [List.getElem?_set]
        by_cases hkc : c.toNat = k
        · have hk' : (k : Int) = c := by omega
          rw [if_pos hkc, if_pos (by omega), hk', if_pos ⟨c2, g1, by omega⟩]
        · rw [if_neg hkc, hb k hk]
          have : ((k : Int) < c) = ((k : Int) < c + 1) := by apply propext; omega
          simp only [this]
      · rw [ew] at g1
        refine ⟨bk, hI, hl, fun k hk => ?_, hF⟩
        rw [hb k hk]
        have : ((k : Int) * card < to_ ∧ (k : Int) < c) = ((k : Int) * card < to_) := by
          apply propext
          refine ⟨fun h => h.1, fun h => ⟨h, ?_⟩⟩
          by_cases h' : (k : Int) < c
          · exact h'
          · have := Int.mul_le_mul_of_nonneg_right (show c ≤ (k : Int) by omega) (show 0 ≤ card by omega)
            omega
        simp only [this]
    · refine ⟨bk, hI, hl, fun k hk => ?_, hF⟩
      rw [hb k hk]
      have : ((k : Int) * card < to_ ∧ (k : Int) < c) = ((k : Int) * card < to_) := by
        apply propext
        exact ⟨fun h => h.1, fun h => ⟨h, by omega⟩⟩
      simp only [this]
end Go.Proofs.YtdhbpklmkibmbaaGreat
/- Layer 6 (offs): New, Put, Drop, the law's awake. -/
namespace Go.Proofs.YtdhbpklmkibmbaaGreat
open Go.Vc

def geomV (a0 a1 a2 a3 a4 a5 : Int) : Value := .agg #[.int .i64 a0, .int .i64 a1, .int .i64 a2, .int .i64 a3, .int .i64 a4, .int .i64 a5]
theorem offs_New_spec (a0 a1 a2 a3 a4 a5 : Int) (w : World) (h0 : 0 ≤ a0) (h1 : a0 ≤ 4194304) (h2 : 1 ≤ a2) (h3 : a4 = a0 / a2) :
    CallC Pr f_offs_New [geomV a0 a1 a2 a3 a4 a5] w (fun v w' => ∃ b r, v = .tuple #[.pointer (some ⟨b, 0, none⟩), .int .i64 0] ∧ IsOffs w' b r a0 a2 (List.replicate a4.toNat 0) ∧ Fr No w w' ∧ w.heap.size ≤ b ∧ w.heap.size ≤ r) := by
  refine call_sound T_ok fun_offs_New rfl (by kernel_rfl) rfl (Kp ?_)
  refine NewC_blk (fun b w1 hb h1 f1 _ => ?_)
  refine AnyC_lex T_ok mixed (by kernel_rfl) (by kernel_rfl) ?_
  have e1 : ¬ a2 < 1 := by omega
  have e2 : ¬ a0 < 0 := by omega
  have e3 : ¬ a0 > 4194304 := by omega
  have e4 : IntKind.i64.wrap (Int.tdiv a0 a2) = a0 / a2 := by
    have := Int.ediv_nonneg (a := a0) (b := a2) (by omega) (by omega)
    have := Int.ediv_le_self (a := a0) a2 (by omega)
    rw [tdiv_eq (by omega), wrap_i64 (by omega) (by omega)]
  refine LdS_blk h1 rfl ?_
  refine Br_df e1 ?_
  refine LdS_blk h1 rfl ?_
  refine Br_df e2 ?_
  refine LdS_blk h1 rfl ?_
  refine Br_df e3 ?_
  refine LdS_blk h1 rfl ?_
  refine LdS_blk h1 rfl ?_
  refine LdS_blk h1 rfl ?_
  refine Sd_intro (by omega) ?_
  refine Br_nf (h3.trans e4.symm) ?_
  refine AnyC_ord [0,1,2,3,4,5,1006,7,1008,9,10] T_ok mixed (by kernel_rfl) (by kernel_rfl) ?_
  refine LdS_blk h1 rfl ?_
  refine LdS_blk h1 rfl ?_
  refine LdS_blk h1 rfl ?_
  refine ⟨?_, trivial⟩
  have n0 : 0 ≤ a4 := by rw [h3]; exact Int.ediv_nonneg h0 (by omega)
  have n1 : a4 ≤ 4194304 := by
    have := Int.ediv_le_self (a := a0) a2 h0
    omega
  refine MkC T_ok (z := .int .u32 0) rfl rfl rfl rfl n0 (by omega) (show (4 : Int) * a4 ≤ _ by omega) (fun r w2 hr h2' f2 s2 => ?_)
  have f1' : Fr No w w2 := (f1.no (Fr.drew w1)).no ((Fr.drew _).no f2)
  refine Sd_intro (((Fr.drew w1).no ((Fr.drew _).no f2)).old) ?_
  refine ⟨?_, trivial⟩
  refine NewC_blk (fun b3 w3 hb3 h3' f3 s3 => ?_)
  refine Sd_intro ((((Fr.drew w1).no ((Fr.drew _).no f2)).no f3).old) ?_
  have hr' : r = w1.heap.size := hr
  have hs := f1.size
  refine ⟨b3, r, rfl, ⟨?_, ?_, by omega, by omega, by omega, ?_⟩, f1'.no f3, by omega, by omega⟩
  · rw [List.length_replicate]; exact h3'
  · have : u32s (List.replicate a4.toNat 0) = List.replicate a4.toNat (.int .u32 0) := by simp [u32s]
    rw [this]
    exact h2'.keep f3 id
  · rw [List.length_replicate, Int.toNat_of_nonneg n0, h3]
    exact Int.ediv_mul_le a0 (by omega)

theorem offs_Put_nil (at_ size : Int) (w : World) : CallC Pr f_offs_Table_Put [.pointer none, .int .i64 at_, .int .i64 size] w (fun v w' => v = .int .i64 1 ∧ Fr No w w') := by
  refine call_sound T_ok fun_offs_Table_Put rfl (by kernel_rfl) rfl (Kp ?_)
  refine NewC_blk (fun b w1 hb h1 f1 _ => ?_)
  refine NewC_blk (fun b2 w2 hb2 h2 f2 _ => ?_)
  refine LdC_blk (h1.keep f2 id) rfl ?_
  refine LdC_blk (h1.keep f2 id) rfl ?_
  refine LdC_blk h2 rfl ?_
  refine LdC_blk h2 rfl ?_
  refine CallC_intro (row_nil _ _ w2) (fun v w3 ⟨hv, f3⟩ => ?_)
  subst hv
  refine LdC_blk ((h1.keep f2 id).keep f3 id) rfl ?_
  exact ⟨rfl, (f1.no f2).no f3⟩
theorem offs_Put_spec {b r : Nat} {words card : Int} {back : List Int} (at_ size : Int) (w : World) (h : IsOffs w b r words card back) (h0 : 0 ≤ at_) (h1 : 1 ≤ size) (h2 : at_ + size ≤ words) (hc : card ≤ 4194304) :
    CallC Pr f_offs_Table_Put [.pointer (some ⟨b, 0, none⟩), .int .i64 at_, .int .i64 size] w
      (fun v w' => v = .int .i64 0 ∧ (∃ bk, IsOffs w' b r words card bk ∧ bk.length = back.length ∧ (∀ k : Nat, k < back.length → bk[k]? = if at_ ≤ (k : Int) * card ∧ (k : Int) * card < at_ + size then some ((k : Int) * card - at_ + 1) else back[k]?)) ∧ Fr (· = r) w w') := by
  have hw := h.w1
  refine call_sound T_ok fun_offs_Table_Put rfl (by kernel_rfl) rfl (Kp ?_)
  refine NewC_blk (fun b1 w1 hb1 g1 f1 _ => ?_)
  refine NewC_blk (fun b2 w2 hb2 g2 f2 _ => ?_)
  refine LdC_blk (g1.keep f2 id) rfl ?_
  refine Br_df (show ¬ size < 1 by omega) ?_
  refine LdC_blk (g1.keep f2 id) rfl ?_
  refine LdC_blk ((h.keep f1 id id).keep f2 id id).tab rfl ?_
  refine Br_df (show ¬ size > words by omega) ?_
  refine LdC_blk (g1.keep f2 id) rfl ?_
  refine LdC_blk g2 rfl ?_
  refine LdC_blk g2 rfl ?_
  have ej : IntKind.i64.wrap (imax at_ 0 + size) = at_ + size := by rw [imax_eq, show max at_ 0 = at_ from by omega, wrap_i64 (by omega) (by omega)]
  have h' := (h.keep f1 id id).keep f2 id id
  refine CallC_intro (row_spec _ _ w2 h') (fun v w3 ⟨hv, f3⟩ => ?_)
  have g1 := (g1.keep f2 id).keep f3 id
  have g2 := g2.keep f3 id
  have h' := h'.keep f3 id id
  have ev : v = .int .i64 0 := by
    rw [hv]
    refine congrArg (Value.int .i64) (if_neg ?_)
    show ¬(at_ < 0 ∨ IntKind.i64.wrap (imax at_ 0 + size) < at_ ∨ words < IntKind.i64.wrap (imax at_ 0 + size))
    rw [ej]; omega
  subst ev
  refine LdC_blk g1 rfl ?_
  refine LdC_blk g1 rfl ?_
  refine LdC_blk g2 rfl ?_
  refine LdC_blk g2 rfl ?_
  have es : IntKind.i64.wrap (at_ + size) = at_ + size := wrap_i64 (by omega) (by omega)
  have hb := h.tab.lt
  have hr := h.row.lt
  have s1 := f1.size
  refine CallC_intro (R := fun _ w' => ∃ bk, IsOffs w' b r words card bk ∧ bk.length = back.length ∧ (∀ k : Nat, k < back.length → bk[k]? = if at_ ≤ (k : Int) * card ∧ (k : Int) * card < at_ + size then some ((k : Int) * card - at_ + 1) else back[k]?) ∧ Fr (· = r) w3 w') ?_ (fun v w4 ⟨bk, q1, q2, q3, q4⟩ => ⟨rfl, ⟨bk, q1, q2, q3⟩, ((f1.no f2).no f3).noL q4⟩)
  have step := cards_spec at_ (at_ + size) (fun k => k * card - at_ + 1) w3 back h' h0 (by omega) h2 hc (.inl rfl) (env := [.pointer (some ⟨b1, 0, none⟩), .pointer (some ⟨b2, 0, none⟩)])
    (fun w5 bk i hI hF c0 c1 c2 c3 => Put1_spec i w5 hI (g1.keep hF (by show ¬ b1 = r; omega)) (g2.keep hF (by show ¬ b2 = r; omega)) c0 c1 h0 c2)
  have step' : ∀ j : Int, j = at_ + size → CallC Pr f_offs_Table_cards [.pointer (some ⟨b, 0, none⟩), .int .i64 at_, .int .i64 j, .func (.func f_offs_Table_Put_1) #[] #[.pointer (some ⟨b1, 0, none⟩), .pointer (some ⟨b2, 0, none⟩)]] w3
      (fun _ w' => ∃ bk, IsOffs w' b r words card bk ∧ bk.length = back.length ∧ (∀ k : Nat, k < back.length → bk[k]? = if at_ ≤ (k : Int) * card ∧ (k : Int) * card < at_ + size then some ((k : Int) * card - at_ + 1) else back[k]?) ∧ Fr (· = r) w3 w') := fun j e => by subst e; exact step
  exact step' _ es
theorem offs_Drop_nil (from_ to_ : Int) (w : World) : CallC Pr f_offs_Table_Drop [.pointer none, .int .i64 from_, .int .i64 to_] w (fun v w' => v = .int .i64 1 ∧ Fr No w w') := by
  refine call_sound T_ok fun_offs_Table_Drop rfl (by kernel_rfl) rfl (Kp ?_)
  refine NewC_blk (fun b w1 hb h1 f1 _ => ?_)
  refine LdC_blk h1 rfl ?_
  refine CallC_intro (row_nil _ _ w1) (fun v w3 ⟨hv, f3⟩ => ?_)
  subst hv
  exact ⟨rfl, f1.no f3⟩

end Go.Proofs.YtdhbpklmkibmbaaGreat
