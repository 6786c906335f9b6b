/- Layer 7 (region): contracts. -/
import Derived.Test.YtilhoimokegpjaaVcT
import Derived.Test.YtilhoimokegpjaaVcI
namespace Go.Proofs.Ytilhoimokegpjaa
open Go.Vc

abbrev R := Int × Int × Int
def flat (rs : List R) : List Value := rs.flatMap fun x => [.int .i64 x.1, .int .i32 x.2.1, .int .i32 x.2.2]
theorem flat_len (rs : List R) : (flat rs).length = 3 * rs.length := by
  induction rs with
  | nil => rfl
  | cons x rs ih => simp [flat] at ih ⊢; omega
theorem flat_get : ∀ {rs : List R} {k : Nat} {x : R}, rs[k]? = some x →
    (flat rs)[3 * k]? = some (.int .i64 x.1) ∧ (flat rs)[3 * k + 1]? = some (.int .i32 x.2.1) ∧ (flat rs)[3 * k + 2]? = some (.int .i32 x.2.2) := by
  intro rs
  induction rs with
  | nil => intro k x h; cases h
  | cons y rs ih =>
    intro k x h
    cases k with
    | zero => simp only [List.getElem?_cons_zero, Option.some.injEq] at h; subst h; exact ⟨rfl, rfl, rfl⟩
    | succ k =>
      have := ih (k := k) (x := x) (by simpa using h)
      simpa [flat, show 3 * (k + 1) = 3 * k + 3 by omega] using this
theorem flat_take : ∀ {rs : List R} {k : Nat} {x : R}, rs[k]? = some x → ((flat rs).drop (3 * k)).take 3 = [.int .i64 x.1, .int .i32 x.2.1, .int .i32 x.2.2] := by
  intro rs
  induction rs with
  | nil => intro k x h; cases h
  | cons y rs ih =>
    intro k x h
    cases k with
    | zero => simp only [List.getElem?_cons_zero, Option.some.injEq] at h; subst h; rfl
    | succ k =>
      have := ih (k := k) (x := x) (by simpa using h)
      simpa [flat, show 3 * (k + 1) = 3 * k + 3 by omega] using this
theorem flat_set : ∀ {rs : List R} {k : Nat} {x : R}, rs[k]? = some x → ∀ v : Int,
    (flat rs).set (3 * k) (.int .i64 v) = flat (rs.set k (v, x.2)) ∧ (flat rs).set (3 * k + 1) (.int .i32 v) = flat (rs.set k (x.1, v, x.2.2)) ∧ (flat rs).set (3 * k + 2) (.int .i32 v) = flat (rs.set k (x.1, x.2.1, v)) := by
  intro rs
  induction rs with
  | nil => intro k x h; cases h
  | cons y rs ih =>
    intro k x h v
    cases k with
    | zero => simp only [List.getElem?_cons_zero, Option.some.injEq] at h; subst h; exact ⟨rfl, rfl, rfl⟩
    | succ k =>
      have := ih (k := k) (x := x) (by simpa using h) v
      simp only [flat, List.flatMap_cons, show 3 * (k + 1) = 3 * k + 3 by omega, List.set_cons_succ] at this ⊢
      simp only [List.cons_append, List.nil_append, show 3 * k + 3 + 1 = 3 * k + 1 + 3 by omega, show 3 * k + 3 + 2 = 3 * k + 2 + 3 by omega, List.set_cons_succ, this.1, this.2.1, this.2.2, and_self]
structure IsReg (w : World) (b r : Nat) (words : Int) (rs : List R) : Prop where
  tab : Blk w b t_region_Table [.int .i64 words, .slice (some ⟨r, 0, none⟩) rs.length rs.length]
  row : Blk w r t_region_one (flat rs)
  w0 : 1 ≤ words
  n0 : (rs.length : Int) * words ≤ 4194304
  us : ∀ x ∈ rs, 0 ≤ x.2.1 ∧ x.2.1 ≤ words ∧ 0 ≤ x.2.2 ∧ x.2.2 ≤ words
section
variable {w w' : World} {b r : Nat} {words : Int} {rs : List R}
theorem IsReg.keep {F : Nat → Prop} (h : IsReg w b r words rs) (f : Fr F w w') (hb : ¬ F b) (hr : ¬ F r) : IsReg w' b r words rs :=
  ⟨h.tab.keep f hb, h.row.keep f hr, h.w0, h.n0, h.us⟩
theorem IsReg.ne (h : IsReg w b r words rs) : b ≠ r := by
  rintro rfl
  have := (h.tab.inj h.row).2
  cases this
theorem IsReg.len (h : IsReg w b r words rs) : (rs.length : Int) ≤ 4194304 := by
  have h1 := h.n0
  have h2 := h.w0
  have : (rs.length : Int) * 1 ≤ (rs.length : Int) * words := Int.mul_le_mul_of_nonneg_left h2 (by omega)
  omega
theorem IsReg.set (h : IsReg w b r words rs) (k : Nat) (x : R) (h1 : Blk w' r t_region_one (flat (rs.set k x))) (f : Fr (· = r) w w') (hx : 0 ≤ x.2.1 ∧ x.2.1 ≤ words ∧ 0 ≤ x.2.2 ∧ x.2.2 ≤ words) : IsReg w' b r words (rs.set k x) :=
  ⟨by rw [List.length_set]; exact h.tab.keep f h.ne, h1, h.w0, by rw [List.length_set]; exact h.n0, fun y hy => by
    rcases List.mem_or_eq_of_mem_set hy with hy | hy
    · exact h.us y hy
    · subst hy; exact hx⟩
end

theorem plain_spec (s : Int) (w : World) : CallC Pr f_region_plain [.int .i64 s] w (fun v w' => v = .bool (decide (1 ≤ s ∧ s ≤ 3)) ∧ Fr No w w') := by
  refine call_sound T_ok fun_region_plain rfl (by kernel_rfl) rfl (Kp ?_)
  refine Br_dec (fun h0 => ?_) (fun h0 => ?_)
  · refine ⟨?_, Fr.refl _ _⟩
    show Value.bool (decide (s ≤ 3)) = _
    congr 1
    exact decide_eq_decide.2 ⟨fun h => ⟨h0, h⟩, fun h => h.2⟩
  · refine ⟨?_, Fr.refl _ _⟩
    show Value.bool false = _
    rw [decide_eq_false (fun h => h0 h.1)]
theorem at_nil (i : Int) (w : World) : CallC Pr f_region_Table_at [.pointer none, .int .i64 i] w (fun v w' => v = .tuple #[.pointer none, .int .i64 1] ∧ Fr No w w') := by
  refine call_sound T_ok fun_region_Table_at rfl (by kernel_rfl) rfl (Kp ?_)
  exact ⟨rfl, Fr.refl _ _⟩
theorem at_out {b r : Nat} {words : Int} {rs : List R} (i : Int) (w : World) (h : IsReg w b r words rs) (hi : i < 0 ∨ (rs.length : Int) ≤ i) :
    CallC Pr f_region_Table_at [.pointer (some ⟨b, 0, none⟩), .int .i64 i] w (fun v w' => v = .tuple #[.pointer none, .int .i64 2] ∧ Fr No w w') := by
  refine call_sound T_ok fun_region_Table_at rfl (by kernel_rfl) rfl (Kp ?_)
  refine Br_dec (fun h0 => ?_) (fun h0 => ?_)
  · exact ⟨rfl, Fr.refl _ _⟩
  · refine LdC_blk h.tab rfl ?_
    refine Br_dt (show i ≥ (rs.length : Int) by omega) ?_
    exact ⟨rfl, Fr.refl _ _⟩
theorem at_in {b r : Nat} {words : Int} {rs : List R} (i : Int) (w : World) (h : IsReg w b r words rs) (h0 : 0 ≤ i) (hi : i < (rs.length : Int)) :
    CallC Pr f_region_Table_at [.pointer (some ⟨b, 0, none⟩), .int .i64 i] w (fun v w' => v = .tuple #[.pointer (some ⟨r, 3 * i.toNat, none⟩), .int .i64 0] ∧ Fr No w w') := by
  refine call_sound T_ok fun_region_Table_at rfl (by kernel_rfl) rfl (Kp ?_)
  refine Br_df (show ¬ i < 0 by omega) ?_
  refine LdC_blk h.tab rfl ?_
  refine Br_df (show ¬ i ≥ (rs.length : Int) by omega) ?_
  refine LdC_blk h.tab rfl ?_
  refine Sd_intro ⟨h0, hi⟩ ?_
  refine ⟨?_, Fr.refl _ _⟩
  show Value.tuple #[.pointer (some ((Addr.mk r 0 none).add (i.toNat * 3))), .int .i64 0] = _
  rw [add_of, Nat.zero_add, Nat.mul_comm]
theorem State_spec {b r : Nat} {words : Int} {rs : List R} (i : Int) (w : World) (h : IsReg w b r words rs) (h0 : 0 ≤ i) {x : R} (hx : rs[i.toNat]? = some x) :
    CallC Pr f_region_Table_State [.pointer (some ⟨b, 0, none⟩), .int .i64 i] w (fun v w' => v = .int .i64 x.1 ∧ Fr No w w') := by
  have hl : i < (rs.length : Int) := by
    have := (List.getElem?_eq_some_iff.1 hx).1
    omega
  refine call_sound T_ok fun_region_Table_State rfl (by kernel_rfl) rfl (Kp ?_)
  refine CallC_intro (at_in i w h h0 hl) (fun v w1 ⟨hv, f1⟩ => ?_)
  subst hv
  refine LdC_blk (h.row.keep f1 id) (flat_get hx).1 ?_
  exact ⟨rfl, f1⟩
theorem Top_spec {b r : Nat} {words : Int} {rs : List R} (i : Int) (w : World) (h : IsReg w b r words rs) (h0 : 0 ≤ i) {x : R} (hx : rs[i.toNat]? = some x) :
    CallC Pr f_region_Table_Top [.pointer (some ⟨b, 0, none⟩), .int .i64 i] w (fun v w' => v = .int .i64 (i * words + x.2.1) ∧ Fr No w w') := by
  have hl : i < (rs.length : Int) := by
    have := (List.getElem?_eq_some_iff.1 hx).1
    omega
  refine call_sound T_ok fun_region_Table_Top rfl (by kernel_rfl) rfl (Kp ?_)
  refine CallC_intro (at_in i w h h0 hl) (fun v w1 ⟨hv, f1⟩ => ?_)
  subst hv
  refine AnyC_lex T_ok mixed (by kernel_rfl) (by kernel_rfl) ?_
  refine LdS_blk (h.tab.keep f1 id) rfl ?_
  refine LdS_blk (h.row.keep f1 id) (flat_get hx).2.1 ?_
  refine ⟨?_, f1.drew'⟩
  have hu := h.us x (List.mem_of_getElem? hx)
  have hn := h.n0
  have hw := h.w0
  have m1 : i * words ≤ rs.length * words := Int.mul_le_mul_of_nonneg_right (by omega) (by omega)
  have m2 : 0 ≤ i * words := Int.mul_nonneg h0 (by omega)
  have m3 : 1 * words ≤ rs.length * words := Int.mul_le_mul_of_nonneg_right (by omega) (by omega)
  show Value.int .i64 (IntKind.i64.wrap (IntKind.i64.wrap (i * words) + IntKind.i64.wrap x.2.1)) = _
  rw [wrap_i64 (n := i * words) (by omega) (by omega), wrap_i64 (n := x.2.1) (by omega) (by omega), wrap_i64 (by omega) (by omega)]
end Go.Proofs.Ytilhoimokegpjaa
