/- Layer 6 (offs): what its functions do, one contract a function. -/
import Derived.Test.YtilhoimokegpjaaVcT
import Derived.Test.YtilhoimokegpjaaVcH
namespace Go.Proofs.Ytilhoimokegpjaa
open Go.Vc

def u32s (l : List Int) : List Value := l.map (.int .u32)
theorem u32s_get {l : List Int} {k : Nat} (h : k < l.length) : (u32s l)[k]? = some (.int .u32 l[k]) := by simp [u32s, h]
theorem u32s_set (l : List Int) (k : Nat) (v : Int) : (u32s l).set k (.int .u32 v) = u32s (l.set k v) := by simp [u32s, List.map_set]
theorem u32s_len (l : List Int) : (u32s l).length = l.length := by simp [u32s]

/-- An offset table: its struct at block b, its row at block r. -/
structure IsOffs (w : World) (b r : Nat) (words card : Int) (back : List Int) : Prop where
  tab : Blk w b t_offs_Table [.int .i64 words, .int .i64 card, .slice (some ⟨r, 0, none⟩) back.length back.length]
  row : Blk w r t_uint32 (u32s back)
  w0 : 0 ≤ words
  w1 : words ≤ 4194304
  c0 : 1 ≤ card
  n0 : (back.length : Int) * card ≤ words
theorem IsOffs.keep {w w' : World} {b r : Nat} {words card : Int} {back : List Int} {F : Nat → Prop} (h : IsOffs w b r words card back) (f : Fr F w w') (hb : ¬ F b) (hr : ¬ F r) : IsOffs w' b r words card back :=
  ⟨h.tab.keep f hb, h.row.keep f hr, h.w0, h.w1, h.c0, h.n0⟩
theorem IsOffs.ne {w : World} {b r : Nat} {words card : Int} {back : List Int} (h : IsOffs w b r words card back) : b ≠ r := by
  rintro rfl
  have := (h.tab.inj h.row).2
  cases this
theorem IsOffs.set {w w' : World} {b r : Nat} {words card : Int} {back : List Int} (h : IsOffs w b r words card back) (k : Nat) (v : Int)
    (h1 : Blk w' r t_uint32 (u32s (back.set k v))) (f : Fr (· = r) w w') : IsOffs w' b r words card (back.set k v) :=
  ⟨by rw [List.length_set]; exact h.tab.keep f h.ne, h1, h.w0, h.w1, h.c0, by rw [List.length_set]; exact h.n0⟩
theorem IsOffs.len {w : World} {b r : Nat} {words card : Int} {back : List Int} (h : IsOffs w b r words card back) : (back.length : Int) ≤ 4194304 := by
  have h1 := h.n0
  have h2 := h.c0
  have h3 := h.w1
  have : (back.length : Int) * 1 ≤ (back.length : Int) * card := Int.mul_le_mul_of_nonneg_left h2 (by omega)
  omega
theorem mul_bd {i n c : Int} (h0 : 0 ≤ i) (h1 : i ≤ n) (hc : 1 ≤ c) : 0 ≤ i * c ∧ i * c ≤ n * c :=
  ⟨Int.mul_nonneg h0 (by omega), Int.mul_le_mul_of_nonneg_right h1 (by omega)⟩

theorem row_nil (i j : Int) (w : World) : CallC Pr f_offs_Table_row [.pointer none, .int .i64 i, .int .i64 j] w (fun v w' => v = .int .i64 1 ∧ Fr No w w') := by
  refine call_sound T_ok fun_offs_Table_row rfl (by kernel_rfl) rfl ?_
  exact ⟨rfl, Fr.refl _ _⟩
theorem row_spec {b r : Nat} {words card : Int} {back : List Int} (i j : Int) (w : World) (h : IsOffs w b r words card back) :
    CallC Pr f_offs_Table_row [.pointer (some ⟨b, 0, none⟩), .int .i64 i, .int .i64 j] w (fun v w' => v = .int .i64 (if i < 0 ∨ j < i ∨ words < j then 2 else 0) ∧ Fr No w w') := by
  refine call_sound T_ok fun_offs_Table_row rfl (by kernel_rfl) rfl ?_
  refine Br_dec (fun h0 => ?_) (fun h0 => ?_)
  · refine ⟨?_, Fr.refl _ _⟩
    rw [if_pos (.inl h0)]; rfl
  · refine Br_dec (fun h1 => ?_) (fun h1 => ?_)
    · refine ⟨?_, Fr.refl _ _⟩
      rw [if_pos (.inr (.inl h1))]; rfl
    · refine LdC_blk h.tab rfl ?_
      refine Br_dec (fun h2 => ?_) (fun h2 => ?_)
      · refine ⟨?_, Fr.refl _ _⟩
        rw [if_pos (.inr (.inr (by omega)))]; rfl
      · refine ⟨?_, Fr.refl _ _⟩
        rw [if_neg (by omega)]; rfl

theorem First_nil (i : Int) (w : World) : CallC Pr f_offs_Table_First [.pointer none, .int .i64 i] w (fun v w' => v = .tuple #[.int .i64 0, .int .i64 1] ∧ Fr No w w') := by
  refine call_sound T_ok fun_offs_Table_First rfl (by kernel_rfl) rfl ?_
  exact ⟨rfl, Fr.refl _ _⟩
theorem First_out {b r : Nat} {words card : Int} {back : List Int} (i : Int) (w : World) (h : IsOffs w b r words card back) (hi : i < 0 ∨ (back.length : Int) ≤ i) :
    CallC Pr f_offs_Table_First [.pointer (some ⟨b, 0, none⟩), .int .i64 i] w (fun v w' => v = .tuple #[.int .i64 0, .int .i64 2] ∧ Fr No w w') := by
  refine call_sound T_ok fun_offs_Table_First rfl (by kernel_rfl) rfl ?_
  refine Br_dec (fun h0 => ?_) (fun h0 => ?_)
  · exact ⟨rfl, Fr.refl _ _⟩
  · refine LdC_blk h.tab rfl ?_
    refine Br_dt (show i ≥ (back.length : Int) by omega) ?_
    exact ⟨rfl, Fr.refl _ _⟩
theorem u32s_get? {l : List Int} {k : Nat} {x : Int} (h : l[k]? = some x) : (u32s l)[k]? = some (.int .u32 x) := by simp [u32s, h]
theorem lt_of_get? {α : Type} {l : List α} {k : Nat} {x : α} (h : l[k]? = some x) : k < l.length := by
  rcases Nat.lt_or_ge k l.length with h' | h'
  · exact h'
  · rw [List.getElem?_eq_none h'] at h; cases h
theorem First_in {b r : Nat} {words card : Int} {back : List Int} (i x : Int) (w : World) (h : IsOffs w b r words card back) (h0 : 0 ≤ i) (hx : back[i.toNat]? = some x) (hb : 0 ≤ x ∧ x ≤ 4294967295) :
    CallC Pr f_offs_Table_First [.pointer (some ⟨b, 0, none⟩), .int .i64 i] w (fun v w' => v = (if x = 0 then .tuple #[.int .i64 0, .int .i64 5] else .tuple #[.int .i64 (i * card - (x - 1)), .int .i64 0]) ∧ Fr No w w') := by
  have hl := lt_of_get? hx
  refine call_sound T_ok fun_offs_Table_First rfl (by kernel_rfl) rfl ?_
  refine Br_df (show ¬ i < 0 by omega) ?_
  refine LdC_blk h.tab rfl ?_
  refine Br_df (show ¬ i ≥ (back.length : Int) by omega) ?_
  refine LdC_blk h.tab rfl ?_
  refine Sd_intro ⟨by omega, by omega⟩ ?_
  refine LdC_idx h.row (by simp only [Nat.mul_one, Nat.zero_add]; exact u32s_get? hx) ?_
  refine Br_dec (fun h0 => ?_) (fun h0 => ?_)
  · exact ⟨by rw [if_pos h0]; rfl, Fr.refl _ _⟩
  · refine AnyC_lex T_ok mixed (by kernel_rfl) (by kernel_rfl) ?_
    refine LdS_blk h.tab rfl ?_
    refine LdS_blk h.tab rfl ?_
    refine Sd_intro ⟨by omega, by omega⟩ ?_
    refine LdS_idx h.row (by simp only [Nat.mul_one, Nat.zero_add]; exact u32s_get? hx) ?_
    refine ⟨?_, Fr.drew _⟩
    have hm := mul_bd (i := i) (n := back.length) (c := card) (by omega) (by omega) h.c0
    have hn := h.n0
    have hw := h.w1
    rw [if_neg h0]
    show Value.tuple #[.int .i64 (IntKind.i64.wrap (IntKind.i64.wrap (i * card) - IntKind.i64.wrap (IntKind.u32.wrap (x - 1)))), .int .i64 0] = _
    rw [wrap_u32 (by omega) (by omega), wrap_i64 (n := x - 1) (by omega) (by omega), wrap_i64 (n := i * card) (by omega) (by omega), wrap_i64 (by omega) (by omega)]
end Go.Proofs.Ytilhoimokegpjaa
