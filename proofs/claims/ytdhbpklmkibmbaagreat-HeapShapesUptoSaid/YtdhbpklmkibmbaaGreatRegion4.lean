/- Layer 7 (region): contracts. -/
import Derived.Test.YtdhbpklmkibmbaaGreatVcT
import Derived.Test.YtdhbpklmkibmbaaGreatVcI
import Derived.Test.YtdhbpklmkibmbaaGreatVcL
namespace Go.Proofs.YtdhbpklmkibmbaaGreat
open Go.Vc

abbrev R := Int × Int × Int
def flat (rs : List R) : List Value := rs.flatMap fun x => [.int .i64 x.1, .int .i32 x.2.1, .int .i32 x.2.2]
theorem flat_len (rs : List R) : (flat rs).length = 3 * rs.length := by
  induction rs with
  | nil => rfl
  | cons x rs ih => simp [flat] at ih ⊢; omega
theorem flat_get : ∀ {rs : List R} {k : Nat} {x : R}, rs[k]? = some x →
    (flat rs)[3 * k]? = some (.int .i64 x.1) ∧ (flat rs)[3 * k + 1]? = some (.int .i32 x.2.1) ∧ (flat rs)[3 * k + 2]? = some (.int .i32 x.2.2) := by
  intro rs
  induction rs with
  | nil => intro k x h; cases h
  | cons y rs ih =>
    intro k x h
    cases k with
    | zero => simp only [List.getElem?_cons_zero, Option.some.injEq] at h; subst h; exact ⟨rfl, rfl, rfl⟩
    | succ k =>
      have := ih (k := k) (x := x) (by simpa using h)
      simpa [flat, show 3 * (k + 1) = 3 * k + 3 by omega] using this
theorem flat_take : ∀ {rs : List R} {k : Nat} {x : R}, rs[k]? = some x → ((flat rs).drop (3 * k)).take 3 = [.int .i64 x.1, .int .i32 x.2.1, .int .i32 x.2.2] := by
  intro rs
  induction rs with
  | nil => intro k x h; cases h
  | cons y rs ih =>
    intro k x h
    cases k with
    | zero => simp only [List.getElem?_cons_zero, Option.some.injEq] at h; subst h; rfl
    | succ k =>
      have := ih (k := k) (x := x) (by simpa using h)
      simpa [flat, show 3 * (k + 1) = 3 * k + 3 by omega] using this
theorem flat_set : ∀ {rs : List R} {k : Nat} {x : R}, rs[k]? = some x → ∀ v : Int,
    (flat rs).set (3 * k) (.int .i64 v) = flat (rs.set k (v, x.2)) ∧ (flat rs).set (3 * k + 1) (.int .i32 v) = flat (rs.set k (x.1, v, x.2.2)) ∧ (flat rs).set (3 * k + 2) (.int .i32 v) = flat (rs.set k (x.1, x.2.1, v)) := by
  intro rs
  induction rs with
  | nil => intro k x h; cases h
  | cons y rs ih =>
    intro k x h v
    cases k with
    | zero => simp only [List.getElem?_cons_zero, Option.some.injEq] at h; subst h; exact ⟨rfl, rfl, rfl⟩
    | succ k =>
      have := ih (k := k) (x := x) (by simpa using h) v
      simp only [flat, List.flatMap_cons, show 3 * (k + 1) = 3 * k + 3 by omega, List.set_cons_succ] at this ⊢
      simp only [List.cons_append, List.nil_append, show 3 * k + 3 + 1 = 3 * k + 1 + 3 by omega, show 3 * k + 3 + 2 = 3 * k + 2 + 3 by omega, List.set_cons_succ, this.1, this.2.1, this.2.2, and_self]
structure IsReg (w : World) (b r : Nat) (words : Int) (rs : List R) : Prop where
  tab : Blk w b t_region_Table [.int .i64 words, .slice (some ⟨r, 0, none⟩) rs.length rs.length]
  row : Blk w r t_region_one (flat rs)
  w0 : 1 ≤ words
  n0 : (rs.length : Int) * words ≤ 4194304
  us : ∀ x ∈ rs, 0 ≤ x.2.1 ∧ x.2.1 ≤ words ∧ 0 ≤ x.2.2 ∧ x.2.2 ≤ words
section
variable {w w' : World} {b r : Nat} {words : Int} {rs : List R}
theorem IsReg.keep {F : Nat → Prop} (h : IsReg w b r words rs) (f : Fr F w w') (hb : ¬ F b) (hr : ¬ F r) : IsReg w' b r words rs :=
  ⟨h.tab.keep f hb, h.row.keep f hr, h.w0, h.n0, h.us⟩
theorem IsReg.ne (h : IsReg w b r words rs) : b ≠ r := by
  rintro rfl
  have := (h.tab.inj h.row).2
  cases this
theorem IsReg.len (h : IsReg w b r words rs) : (rs.length : Int) ≤ 4194304 := by
  have h1 := h.n0
  have h2 := h.w0
  have : (rs.length : Int) * 1 ≤ (rs.length : Int) * words := Int.mul_le_mul_of_nonneg_left h2 (by omega)
  omega
theorem IsReg.set (h : IsReg w b r words rs) (k : Nat) (x : R) (h1 : Blk w' r t_region_one (flat (rs.set k x))) (f : Fr (· = r) w w') (hx : 0 ≤ x.2.1 ∧ x.2.1 ≤ words ∧ 0 ≤ x.2.2 ∧ x.2.2 ≤ words) : IsReg w' b r words (rs.set k x) :=
  ⟨by rw [List.length_set]; exact h.tab.keep f h.ne, h1, h.w0, by rw [List.length_set]; exact h.n0, fun y hy => by
    rcases List.mem_or_eq_of_mem_set hy with hy | hy
    · exact h.us y hy
    · subst hy; exact hx⟩
end

theorem plain_spec (s : Int) (w : World) : CallC Pr f_region_plain [.int .i64 s] w (fun v w' => v = .bool (decide (1 ≤ s ∧ s ≤ 3)) ∧ Fr No w w') := by
  refine call_sound T_ok fun_region_plain rfl (by kernel_rfl) rfl (Kp ?_)
  refine Br_dec (fun h0 => ?_) (fun h0 => ?_)
  · refine ⟨?_, Fr.refl _ _⟩
    show Value.bool (decide (s ≤ 3)) = _
    congr 1
    exact decide_eq_decide.2 ⟨fun h => ⟨h0, h⟩, fun h => h.2⟩
  · refine ⟨?_, Fr.refl _ _⟩
    show Value.bool false = _
    rw [decide_eq_false (fun h => h0 h.1)]
theorem at_nil (i : Int) (w : World) : CallC Pr f_region_Table_at [.pointer none, .int .i64 i] w (fun v w' => v = .tuple #[.pointer none, .int .i64 1] ∧ Fr No w w') := by
  refine call_sound T_ok fun_region_Table_at rfl (by kernel_rfl) rfl (Kp ?_)
  exact ⟨rfl, Fr.refl _ _⟩
theorem at_out {b r : Nat} {words : Int} {rs : List R} (i : Int) (w : World) (h : IsReg w b r words rs) (hi : i < 0 ∨ (rs.length : Int) ≤ i) :
    CallC Pr f_region_Table_at [.pointer (some ⟨b, 0, none⟩), .int .i64 i] w (fun v w' => v = .tuple #[.pointer none, .int .i64 2] ∧ Fr No w w') := by
  refine call_sound T_ok fun_region_Table_at rfl (by kernel_rfl) rfl (Kp ?_)
  refine Br_dec (fun h0 => ?_) (fun h0 => ?_)
  · exact ⟨rfl, Fr.refl _ _⟩
  · refine LdC_blk h.tab rfl ?_
    refine Br_dt (show i ≥ (rs.length : Int) by omega) ?_
    exact ⟨rfl, Fr.refl _ _⟩
theorem at_in {b r : Nat} {words : Int} {rs : List R} (i : Int) (w : World) (h : IsReg w b r words rs) (h0 : 0 ≤ i) (hi : i < (rs.length : Int)) :
    CallC Pr f_region_Table_at [.pointer (some ⟨b, 0, none⟩), .int .i64 i] w (fun v w' => v = .tuple #[.pointer (some ⟨r, 3 * i.toNat, none⟩), .int .i64 0] ∧ Fr No w w') := by
  refine call_sound T_ok fun_region_Table_at rfl (by kernel_rfl) rfl (Kp ?_)
  refine Br_df (show ¬ i < 0 by omega) ?_
  refine LdC_blk h.tab rfl ?_
  refine Br_df (show ¬ i ≥ (rs.length : Int) by omega) ?_
  refine LdC_blk h.tab rfl ?_
  refine Sd_intro ⟨h0, hi⟩ ?_
  refine ⟨?_, Fr.refl _ _⟩
  show Value.tuple #[.pointer (some ((Addr.mk r 0 none).add (i.toNat * 3))), .int .i64 0] = _
  rw [add_of, Nat.zero_add, Nat.mul_comm]
theorem State_spec {b r : Nat} {words : Int} {rs : List R} (i : Int) (w : World) (h : IsReg w b r words rs) (h0 : 0 ≤ i) {x : R} (hx : rs[i.toNat]? = some x) :
    CallC Pr f_region_Table_State [.pointer (some ⟨b, 0, none⟩), .int .i64 i] w (fun v w' => v = .int .i64 x.1 ∧ Fr No w w') := by
  have hl : i < (rs.length : Int) := by
    have := (List.getElem?_eq_some_iff.1 hx).1
    omega
  refine call_sound T_ok fun_region_Table_State rfl (by kernel_rfl) rfl (Kp ?_)
  refine CallC_intro (at_in i w h h0 hl) (fun v w1 ⟨hv, f1⟩ => ?_)
  subst hv
  refine LdC_blk (h.row.keep f1 id) (flat_get hx).1 ?_
  exact ⟨rfl, f1⟩
theorem Top_spec {b r : Nat} {words : Int} {rs : List R} (i : Int) (w : World) (h : IsReg w b r words rs) (h0 : 0 ≤ i) {x : R} (hx : rs[i.toNat]? = some x) :
    CallC Pr f_region_Table_Top [.pointer (some ⟨b, 0, none⟩), .int .i64 i] w (fun v w' => v = .int .i64 (i * words + x.2.1) ∧ Fr No w w') := by
  have hl : i < (rs.length : Int) := by
    have := (List.getElem?_eq_some_iff.1 hx).1
    omega
  refine call_sound T_ok fun_region_Table_Top rfl (by kernel_rfl) rfl (Kp ?_)
  refine CallC_intro (at_in i w h h0 hl) (fun v w1 ⟨hv, f1⟩ => ?_)
  subst hv
  refine AnyC_lex T_ok mixed (by kernel_rfl) (by kernel_rfl) ?_
  refine LdS_blk (h.tab.keep f1 id) rfl ?_
  refine LdS_blk (h.row.keep f1 id) (flat_get hx).2.1 ?_
  refine ⟨?_, f1.drew'⟩
  have hu := h.us x (List.mem_of_getElem? hx)
  have hn := h.n0
  have hw := h.w0
  have m1 : i * words ≤ rs.length * words := Int.mul_le_mul_of_nonneg_right (by omega) (by omega)
  have m2 : 0 ≤ i * words := Int.mul_nonneg h0 (by omega)
  have m3 : 1 * words ≤ rs.length * words := Int.mul_le_mul_of_nonneg_right (by omega) (by omega)
  show Value.int .i64 (IntKind.i64.wrap (IntKind.i64.wrap (i * words) + IntKind.i64.wrap x.2.1)) = _
  rw [wrap_i64 (n := i * words) (by omega) (by omega), wrap_i64 (n := x.2.1) (by omega) (by omega), wrap_i64 (by omega) (by omega)]
end Go.Proofs.YtdhbpklmkibmbaaGreat
/- Layer 7 (region): contracts of what turns it. -/
namespace Go.Proofs.YtdhbpklmkibmbaaGreat
open Go.Vc

theorem Claim_nil (s : Int) (w : World) : CallC Pr f_region_Table_Claim [.pointer none, .int .i64 s] w (fun v w' => v = .tuple #[.int .i64 0, .int .i64 1] ∧ Fr No w w') := by
  refine call_sound T_ok fun_region_Table_Claim rfl (by kernel_rfl) rfl (Kp ?_)
  exact ⟨rfl, Fr.refl _ _⟩
theorem Claim_not {b : Nat} (s : Int) (w : World) (hs : ¬ (1 ≤ s ∧ s ≤ 3)) :
    CallC Pr f_region_Table_Claim [.pointer (some ⟨b, 0, none⟩), .int .i64 s] w (fun v w' => v = .tuple #[.int .i64 0, .int .i64 3] ∧ Fr No w w') := by
  refine call_sound T_ok fun_region_Table_Claim rfl (by kernel_rfl) rfl (Kp ?_)
  refine CallC_intro (plain_spec s w) (fun v w1 ⟨hv, f1⟩ => ?_)
  rw [decide_eq_false hs] at hv
  subst hv
  exact ⟨rfl, f1⟩
/-- What Claim comes to. -/
def Claimed (s : Int) (rs rs' : List R) (v : Value) : Prop :=
  (∃ (k : Nat) (x : R), rs[k]? = some x ∧ x.1 = 0 ∧ (∀ (j : Nat) (y : R), j < k → rs[j]? = some y → y.1 ≠ 0) ∧ rs' = rs.set k (s, x.2) ∧ v = .tuple #[.int .i64 k, .int .i64 0]) ∨
  ((∀ (j : Nat) (y : R), rs[j]? = some y → y.1 ≠ 0) ∧ rs' = rs ∧ v = .tuple #[.int .i64 0, .int .i64 6])
theorem Claim_spec {b r : Nat} {words : Int} {rs : List R} (s : Int) (w : World) (h : IsReg w b r words rs) (hs : 1 ≤ s ∧ s ≤ 3) :
    CallC Pr f_region_Table_Claim [.pointer (some ⟨b, 0, none⟩), .int .i64 s] w (fun v w' => ∃ rs', Claimed s rs rs' v ∧ IsReg w' b r words rs' ∧ Fr (· = r) w w') := by
  have hlen := h.len
  refine call_sound T_ok fun_region_Table_Claim rfl (by kernel_rfl) rfl (Kp ?_)
  refine CallC_intro (plain_spec s w) (fun v w1 ⟨hv, f1⟩ => ?_)
  rw [decide_eq_true hs] at hv
  subst hv
  have h1 := h.keep f1 id id
  refine LdC_blk h1.tab rfl ?_
  refine LoopC_intro (α := Int) (fun i => [(0, .pointer (some ⟨b, 0, none⟩)), (1, .int .i64 s), (18, .int .i64 rs.length), (19, .int .i64 i)])
    (fun m i w2 => IsReg w2 b r words rs ∧ Fr No w w2 ∧ 0 ≤ i ∧ i ≤ rs.length ∧ m = (rs.length - i).toNat ∧ (∀ (j : Nat) (y : R), (j : Int) < i → rs[j]? = some y → y.1 ≠ 0))
    (rs.length - 0 : Int).toNat 0 ⟨rfl, rfl, rfl, rfl, trivial⟩ ⟨h1, f1, (show (0 : Int) ≤ 0 by omega), (show (0 : Int) ≤ rs.length by omega), rfl, fun j y hj => (by have : (j : Int) < 0 := hj; omega)⟩ ?_
  rintro m i w2 ⟨h2, f2, i0, i1, hm, hj⟩
  refine Br_dec (fun g0 => ?_) (fun g0 => ?_)
  · have g0 : i < (rs.length : Int) := g0
    refine LdC_blk h2.tab rfl ?_
    refine Sd_intro ⟨i0, g0⟩ ?_
    have hi : i.toNat < rs.length := by omega
    have hx := List.getElem?_eq_getElem hi
    generalize rs[i.toNat] = x at hx
    have hc := flat_get hx
    refine LdC_idx (v := .int .i64 x.1) h2.row (by rw [Nat.zero_add, Nat.mul_comm]; exact hc.1) ?_
    refine Br_dec (fun g1 => ?_) (fun g1 => ?_)
    · refine LdC_blk h2.tab rfl ?_
      refine Sd_intro ⟨i0, g0⟩ ?_
      refine StC_idx h2.row rfl (u := .int .i64 x.1) (by rw [Nat.zero_add, Nat.mul_comm]; exact hc.1) (fun w3 h3 f3 _ => ?_)
      rw [Nat.zero_add, Nat.mul_comm] at h3
      rw [(flat_set hx s).1] at h3
      have hu := h.us x (List.mem_of_getElem? hx)
      refine ⟨rs.set i.toNat (s, x.2), .inl ⟨i.toNat, x, hx, g1, fun j y hjk hy => hj j y (by omega) hy, rfl, ?_⟩, h2.set _ _ h3 f3 hu, f2.noL f3⟩
      rw [show ((i.toNat : Nat) : Int) = i by omega]; rfl
    · have e1 : IntKind.i64.wrap (i + 1) = i + 1 := wrap_i64 (by omega) (by omega)
      refine ⟨(rs.length - (i + 1)).toNat, _, by omega, ?_, i + 1, rfl, h2, f2, by omega, by omega, rfl, fun j y hj' hy => ?_⟩
      · exact ⟨rfl, rfl, rfl, look_int rfl e1, trivial⟩
      · by_cases e : (j : Int) < i
        · exact hj j y e hy
        · have : j = i.toNat := by omega
          subst this
          rw [hx] at hy
          injection hy with hy
          subst hy; exact g1
  · have g0 : ¬ i < (rs.length : Int) := g0
    refine ⟨rs, .inr ⟨fun j y hy => hj j y ?_ hy, rfl, rfl⟩, h2, f2.weak (fun _ _ e => e.elim)⟩
    have := (List.getElem?_eq_some_iff.1 hy).1
    omega
theorem Bump_nil (i n : Int) (w : World) : CallC Pr f_region_Table_Bump [.pointer none, .int .i64 i, .int .i64 n] w (fun v w' => v = .tuple #[.int .i64 0, .int .i64 1] ∧ Fr No w w') := by
  refine call_sound T_ok fun_region_Table_Bump rfl (by kernel_rfl) rfl (Kp ?_)
  refine CallC_intro (at_nil i w) (fun v w1 ⟨hv, f1⟩ => ?_)
  subst hv
  exact ⟨rfl, f1⟩
theorem IsReg.le {w : World} {b r : Nat} {words : Int} {rs : List R} (h : IsReg w b r words rs) {k : Nat} {x : R} (hx : rs[k]? = some x) : words ≤ 4194304 := by
  have hl := (List.getElem?_eq_some_iff.1 hx).1
  have hn := h.n0
  have hw := h.w0
  have m3 : 1 * words ≤ rs.length * words := Int.mul_le_mul_of_nonneg_right (by omega) (by omega)
  omega
theorem Bump_full {b r : Nat} {words : Int} {rs : List R} (i n : Int) (w : World) (h : IsReg w b r words rs) (h0 : 0 ≤ i) {x : R} (hx : rs[i.toNat]? = some x) (hn : 1 ≤ n) (hs : 1 ≤ x.1 ∧ x.1 ≤ 3) (hf : words - x.2.1 < n) :
    CallC Pr f_region_Table_Bump [.pointer (some ⟨b, 0, none⟩), .int .i64 i, .int .i64 n] w (fun v w' => v = .tuple #[.int .i64 0, .int .i64 6] ∧ Fr No w w') := by
  have hl : i < (rs.length : Int) := by
    have := (List.getElem?_eq_some_iff.1 hx).1
    omega
  have hu := h.us x (List.mem_of_getElem? hx)
  have hle := h.le hx
  refine call_sound T_ok fun_region_Table_Bump rfl (by kernel_rfl) rfl (Kp ?_)
  refine CallC_intro (at_in i w h h0 hl) (fun v w1 ⟨hv, f1⟩ => ?_)
  subst hv
  refine Br_df (show ¬ n < 1 by omega) ?_
  refine LdC_blk (h.row.keep f1 id) (flat_get hx).1 ?_
  refine CallC_intro (plain_spec x.1 w1) (fun v w2 ⟨hv, f2⟩ => ?_)
  rw [decide_eq_true hs] at hv
  subst hv
  have f2 := f1.no f2
  refine AnyC_lex T_ok mixed (by kernel_rfl) (by kernel_rfl) ?_
  refine LdS_blk (h.tab.keep f2 id) rfl ?_
  refine LdS_blk (h.row.keep f2 id) (flat_get hx).2.1 ?_
  refine Br_dt (show n > IntKind.i64.wrap (words - IntKind.i64.wrap x.2.1) by rw [wrap_i64 (n := x.2.1) (by omega) (by omega), wrap_i64 (by omega) (by omega)]; omega) ?_
  exact ⟨rfl, f2.drew'⟩
theorem Bump_spec {b r : Nat} {words : Int} {rs : List R} (i n : Int) (w : World) (h : IsReg w b r words rs) (h0 : 0 ≤ i) {x : R} (hx : rs[i.toNat]? = some x) (hn : 1 ≤ n) (hs : 1 ≤ x.1 ∧ x.1 ≤ 3) (hf : n ≤ words - x.2.1) :
    CallC Pr f_region_Table_Bump [.pointer (some ⟨b, 0, none⟩), .int .i64 i, .int .i64 n] w
      (fun v w' => v = .tuple #[.int .i64 (i * words + x.2.1), .int .i64 0] ∧ IsReg w' b r words (rs.set i.toNat (x.1, x.2.1 + n, x.2.2)) ∧ Fr (· = r) w w') := by
  have hl : i < (rs.length : Int) := by
    have := (List.getElem?_eq_some_iff.1 hx).1
    omega
  have hu := h.us x (List.mem_of_getElem? hx)
  have hle := h.le hx
  refine call_sound T_ok fun_region_Table_Bump rfl (by kernel_rfl) rfl (Kp ?_)
  refine CallC_intro (at_in i w h h0 hl) (fun v w1 ⟨hv, f1⟩ => ?_)
  subst hv
  refine Br_df (show ¬ n < 1 by omega) ?_
  refine LdC_blk (h.row.keep f1 id) (flat_get hx).1 ?_
  refine CallC_intro (plain_spec x.1 w1) (fun v w2 ⟨hv, f2⟩ => ?_)
  rw [decide_eq_true hs] at hv
  subst hv
  have f2 := f1.no f2
  refine AnyC_lex T_ok mixed (by kernel_rfl) (by kernel_rfl) ?_
  refine LdS_blk (h.tab.keep f2 id) rfl ?_
  refine LdS_blk (h.row.keep f2 id) (flat_get hx).2.1 ?_
  refine Br_df (show ¬ n > IntKind.i64.wrap (words - IntKind.i64.wrap x.2.1) by rw [wrap_i64 (n := x.2.1) (by omega) (by omega), wrap_i64 (by omega) (by omega)]; omega) ?_
  have f2 := f2.drew'
  refine CallC_intro (Top_spec i _ (h.keep f2 id id) h0 hx) (fun v w3 ⟨hv, f3⟩ => ?_)
  subst hv
  have h3 := (h.keep f2 id id).keep f3 id id
  refine LdC_blk h3.row (flat_get hx).2.1 ?_
  refine StC_blk h3.row rfl (flat_get hx).2.1 (fun w4 h4 f4 _ => ?_)
  have e : IntKind.i32.wrap (x.2.1 + IntKind.i32.wrap n) = x.2.1 + n := by rw [wrap_i32 (n := n) (by omega) (by omega), wrap_i32 (by omega) (by omega)]
  have h4 : Blk w4 r t_region_one ((flat rs).set (3 * i.toNat + 1) (.int .i32 (IntKind.i32.wrap (x.2.1 + IntKind.i32.wrap n)))) := h4
  rw [e, (flat_set hx _).2.1] at h4
  exact ⟨rfl, h3.set _ _ h4 f4 (show 0 ≤ x.2.1 + n ∧ x.2.1 + n ≤ words ∧ 0 ≤ x.2.2 ∧ x.2.2 ≤ words by omega), (f2.no f3).noL f4⟩
end Go.Proofs.YtdhbpklmkibmbaaGreat
/- Layer 7 (region): New, hold, Run, List, the law's awake. -/
namespace Go.Proofs.YtdhbpklmkibmbaaGreat
open Go.Vc

def geomV7 : Value := .agg #[.int .i64 256, .int .i64 64, .int .i64 8, .int .i64 4, .int .i64 32, .int .i64 192]
def zero4 : List R := [(0, 0, 0), (0, 0, 0), (0, 0, 0), (0, 0, 0)]
theorem region_New_aux (a0 a1 a2 a3 a4 a5 : Int) (w : World) (e0 : a0 = 256) (e1 : a1 = 64) (e3 : a3 = 4) :
    CallC Pr f_region_New [.agg #[.int .i64 a0, .int .i64 a1, .int .i64 a2, .int .i64 a3, .int .i64 a4, .int .i64 a5]] w (fun v w' => ∃ b r, v = .tuple #[.pointer (some ⟨b, 0, none⟩), .int .i64 0] ∧ IsReg w' b r 64 zero4 ∧ Fr No w w' ∧ w.heap.size ≤ b ∧ w.heap.size ≤ r) := by
  refine call_sound T_ok fun_region_New rfl (by kernel_rfl) rfl (Kp ?_)
  refine NewC_blk (fun b w1 hb h1 f1 _ => ?_)
  refine AnyC_lex T_ok mixed (by kernel_rfl) (by kernel_rfl) ?_
  refine LdS_blk h1 rfl ?_
  refine Br_df (show ¬ a3 < 1 by omega) ?_
  refine LdS_blk h1 rfl ?_
  refine Br_df (show ¬ a3 > 65536 by omega) ?_
  refine LdS_blk h1 rfl ?_
  refine Br_df (show ¬ a1 < 1 by omega) ?_
  refine LdS_blk h1 rfl ?_
  refine LdS_blk h1 rfl ?_
  refine Sd_intro (by omega) ?_
  refine Br_df (show ¬ a1 > IntKind.i64.wrap (Int.tdiv 4194304 a3) by subst e1 e3; decide) ?_
  refine LdS_blk h1 rfl ?_
  refine LdS_blk h1 rfl ?_
  refine LdS_blk h1 rfl ?_
  refine Br_nf (show a0 = IntKind.i64.wrap (a3 * a1) by subst e0 e1 e3; decide) ?_
  refine AnyC_ord [0,1,2,3,1004,5,1006,7,8] T_ok mixed (by kernel_rfl) (by kernel_rfl) ?_
  refine LdS_blk h1 rfl ?_
  refine LdS_blk h1 rfl ?_
  refine ⟨?_, trivial⟩
  refine MkN T_ok (n := a3) rfl rfl (by omega) (by omega) (show (16 : Int) * a3 ≤ _ by omega) (show a3.toNat * 3 ≠ 0 by omega) (fun r w2 hr h2' f2 s2 => ?_)
  have f1' : Fr No w w2 := (f1.no (Fr.drew w1)).no ((Fr.drew _).no f2)
  refine Sd_intro (((Fr.drew w1).no ((Fr.drew _).no f2)).old) ?_
  refine ⟨?_, trivial⟩
  refine NewC_blk (fun b3 w3 hb3 h3' f3 s3 => ?_)
  refine Sd_intro ((((Fr.drew w1).no ((Fr.drew _).no f2)).no f3).old) ?_
  have hr' : r = w1.heap.size := hr
  have hs := f1.size
  subst e1 e3
  refine ⟨b3, r, rfl, ⟨h3', h2'.keep f3 id, by omega, by decide, by decide⟩, f1'.no f3, by omega, by omega⟩
theorem region_New_spec (w : World) :
    CallC Pr f_region_New [geomV7] w (fun v w' => ∃ b r, v = .tuple #[.pointer (some ⟨b, 0, none⟩), .int .i64 0] ∧ IsReg w' b r 64 zero4 ∧ Fr No w w' ∧ w.heap.size ≤ b ∧ w.heap.size ≤ r) :=
  region_New_aux 256 64 8 4 32 192 w rfl rfl rfl
/-- What hold makes of the list. -/
def held (words i size : Int) (rs rs' : List R) : Prop :=
  rs'.length = rs.length ∧ ∀ (j : Nat) (x : R), rs[j]? = some x → rs'[j]? = some (if i ≤ j ∧ ((j : Int) - i) * words < size then (if (j : Int) = i then 4 else 5, min (size - ((j : Int) - i) * words) words, 0) else x)
theorem flat_over {rs : List R} {k : Nat} (hk : k < rs.length) (a b c : Int) : over (flat rs) (3 * k) [.int .i64 a, .int .i32 b, .int .i32 c] = flat (rs.set k (a, b, c)) := by
  have e0 := List.getElem?_eq_getElem hk
  have e1 : (rs.set k (a, rs[k].2))[k]? = some (a, rs[k].2) := by rw [List.getElem?_set_self hk]
  have e2 : ((rs.set k (a, rs[k].2)).set k (a, b, rs[k].2.2))[k]? = some (a, b, rs[k].2.2) := by rw [List.getElem?_set_self (by rw [List.length_set]; exact hk)]
  show (((flat rs).set (3 * k) (.int .i64 a)).set (3 * k + 1) (.int .i32 b)).set (3 * k + 1 + 1) (.int .i32 c) = _
  rw [(flat_set e0 a).1, (flat_set e1 b).2.1, (flat_set e2 c).2.2, List.set_set, List.set_set]
theorem hold_spec {b r : Nat} {words : Int} {rs : List R} (i size : Int) (w : World) (h : IsReg w b r words rs) (h0 : 0 ≤ i) (hi : i < rs.length) (hsz : size ≤ 4194304) (hs1 : 1 ≤ size) (hfit : ∀ q : Int, 0 ≤ q → 0 < size - q * words → i + q < rs.length) :
    CallC Pr f_region_Table_hold [.pointer (some ⟨b, 0, none⟩), .int .i64 i, .int .i64 size] w (fun _ w' => ∃ rs', held words i size rs rs' ∧ IsReg w' b r words rs' ∧ Fr (· = r) w w') := by
  have hlen := h.len
  have hw0 := h.w0
  have hle := h.le (List.getElem?_eq_getElem (show i.toNat < rs.length by omega))
  refine call_sound T_ok fun_region_Table_hold rfl (by kernel_rfl) rfl (Kp ?_)
  refine LoopC_intro (α := Int) (fun q => [(0, .pointer (some ⟨b, 0, none⟩)), (1, .int .i64 (i + q)), (2, .int .i64 (size - q * words)), (6, .int .i64 (if q = 0 then 4 else 5))])
    (fun m q w2 => ∃ rs', IsReg w2 b r words rs' ∧ Fr (· = r) w w2 ∧ 0 ≤ q ∧ (0 < q → 0 < size - (q - 1) * words) ∧ m = (rs.length + 2 - q).toNat ∧ rs'.length = rs.length ∧
      ∀ (j : Nat) (x : R), rs[j]? = some x → rs'[j]? = some (if i ≤ j ∧ (j : Int) - i < q then (if (j : Int) = i then 4 else 5, min (size - ((j : Int) - i) * words) words, 0) else x))
    (rs.length + 2 - 0 : Int).toNat 0 ?_ ?_ ?_
  · refine ⟨rfl, ?_, ?_, rfl, trivial⟩
    · exact look_int rfl (by omega)
    · exact look_int rfl (by omega)
  · refine ⟨rs, h, Fr.refl _ _, (show (0 : Int) ≤ 0 by omega), fun hq => absurd hq (by show ¬ (0 : Int) < 0; omega), rfl, rfl, fun j x hx => ?_⟩
    rw [if_neg (fun hh => by have h1 := hh.2; have : (j : Int) - i < 0 := h1; omega)]; exact hx
  rintro m q w2 ⟨rs', h2, f2, q0, qp, hm, hl, hb⟩
  refine Br_dec (fun g0 => ?_) (fun g0 => ?_)
  · have g0 : size - q * words > 0 := g0
    have hiq := hfit q q0 (by omega)
    have q1 : q * 1 ≤ q * words := Int.mul_le_mul_of_nonneg_left (by omega) q0
    refine AnyC_store T_ok mixed (by kernel_rfl) (by kernel_rfl) ?_
    refine LdS_blk h2.tab rfl ?_
    refine LdS_blk h2.tab rfl ?_
    have hk : (i + q).toNat < rs'.length := by omega
    refine Sd_intro ⟨by omega, show i + q < (rs'.length : Int) by omega⟩ ?_
    refine ⟨?_, trivial⟩
    refine StN_idx h2.row rfl (by rw [flat_len]; show 0 + (i + q).toNat * 3 + 3 ≤ 3 * rs'.length; omega) (fun w3 h3 f3 _ => ?_)
    have em : IntKind.i32.wrap (imin (size - q * words) words) = min (size - q * words) words := by rw [imin_eq, wrap_i32 (by omega) (by omega)]
    have h3 : Blk w3 r t_region_one (over (flat rs') (0 + (i + q).toNat * 3) [.int .i64 (if q = 0 then 4 else 5), .int .i32 (IntKind.i32.wrap (imin (size - q * words) words)), .int .i32 0]) := h3
    rw [Nat.zero_add, Nat.mul_comm, em, flat_over hk] at h3
    have f3 := f3.drewL
    have h4 := h2.set _ _ h3 f3 (show 0 ≤ min (size - q * words) words ∧ min (size - q * words) words ≤ words ∧ (0 : Int) ≤ 0 ∧ (0 : Int) ≤ words by omega)
    refine LdC_blk h4.tab rfl ?_
    have e2 : (q + 1) * words = q * words + words := by rw [Int.add_mul, Int.one_mul]
    refine ⟨(rs.length + 2 - (q + 1)).toNat, _, by omega, ?_, q + 1, rfl, _, h4, f2.same f3, by omega, fun _ => (by rw [show q + 1 - 1 = q by omega]; exact g0), rfl, by rw [List.length_set]; exact hl, fun j x hx => ?_⟩
    · refine ⟨rfl, ?_, ?_, ?_, trivial⟩
      · exact look_int rfl (by rw [wrap_i64 (by omega) (by omega)]; omega)
      · exact look_int rfl (by rw [wrap_i64 (by omega) (by omega)]; omega)
      · exact look_int rfl (by rw [if_neg (by omega)])
    · rw [List.getElem?_set]
      by_cases e : (i + q).toNat = j
      · rw [if_pos e, if_pos hk]
        have ej : (j : Int) - i = q := by omega
        rw [if_pos (show i ≤ (j : Int) ∧ (j : Int) - i < q + 1 by omega), ej]
        have : (q = 0) = ((j : Int) = i) := propext ⟨fun _ => by omega, fun _ => by omega⟩
        simp only [this]
      · rw [if_neg e, hb j x hx]
        have : (i ≤ (j : Int) ∧ (j : Int) - i < q) = (i ≤ (j : Int) ∧ (j : Int) - i < q + 1) := propext ⟨fun _ => by omega, fun _ => by omega⟩
        simp only [this]
  · have g0 : ¬ size - q * words > 0 := g0
    refine ⟨rs', ⟨hl, fun j x hx => ?_⟩, h2, f2⟩
    rw [hb j x hx]
    have : (i ≤ (j : Int) ∧ (j : Int) - i < q) = (i ≤ (j : Int) ∧ ((j : Int) - i) * words < size) := by
      apply propext
      constructor
      · rintro ⟨a1, a2⟩
        have := qp (by omega)
        have := Int.mul_le_mul_of_nonneg_right (show (j : Int) - i ≤ q - 1 by omega) (show 0 ≤ words by omega)
        exact ⟨a1, by omega⟩
      · rintro ⟨a1, a2⟩
        refine ⟨a1, ?_⟩
        by_cases e : (j : Int) - i < q
        · exact e
        · have := Int.mul_le_mul_of_nonneg_right (show q ≤ (j : Int) - i by omega) (show 0 ≤ words by omega)
          omega
    simp only [this]

/-- n free ones from k on. -/
def freeAt (rs : List R) (k n : Int) : Prop := 0 ≤ k ∧ k + n ≤ rs.length ∧ ∀ (j : Nat) (x : R), k ≤ j → (j : Int) < k + n → rs[j]? = some x → x.1 = 0
theorem Run_nil (n size : Int) (w : World) : CallC Pr f_region_Table_Run [.pointer none, .int .i64 n, .int .i64 size] w (fun v w' => v = .tuple #[.int .i64 0, .int .i64 1] ∧ Fr No w w') := by
  refine call_sound T_ok fun_region_Table_Run rfl (by kernel_rfl) rfl (Kp ?_)
  exact ⟨rfl, Fr.refl _ _⟩
theorem Run_spec {b r : Nat} {words : Int} {rs : List R} (n size : Int) (w : World) (h : IsReg w b r words rs) (hn : 1 ≤ n) (hs : 1 ≤ size) (hq : (size - 1) / words = n - 1) (hsz : size ≤ 9223372036854775807) (hwd : words ≤ 4194304) :
    CallC Pr f_region_Table_Run [.pointer (some ⟨b, 0, none⟩), .int .i64 n, .int .i64 size] w (fun v w' =>
      (∃ k rs', freeAt rs k n ∧ (∀ k', k' < k → ¬ freeAt rs k' n) ∧ held words k size rs rs' ∧ v = .tuple #[.int .i64 k, .int .i64 0] ∧ IsReg w' b r words rs' ∧ Fr (· = r) w w') ∨
      ((∀ k', ¬ freeAt rs k' n) ∧ v = .tuple #[.int .i64 0, .int .i64 6] ∧ IsReg w' b r words rs ∧ Fr No w w')) := by
  have hlen := h.len
  have hw0 := h.w0
  have hle : n - 1 ≤ size - 1 := by rw [← hq]; exact Int.ediv_le_self _ (by omega)
  refine call_sound T_ok fun_region_Table_Run rfl (by kernel_rfl) rfl (Kp ?_)
  refine Br_df (show ¬ n < 1 by omega) ?_
  refine Br_df (show ¬ size < 1 by omega) ?_
  refine LdC_blk h.tab rfl ?_
  refine Sd_intro (by omega) ?_
  have e1 : IntKind.i64.wrap (size - 1) = size - 1 := wrap_i64 (by omega) (by omega)
  have e2 : IntKind.i64.wrap (n - 1) = n - 1 := wrap_i64 (by omega) (by omega)
  have e3 : IntKind.i64.wrap (Int.tdiv (IntKind.i64.wrap (size - 1)) words) = IntKind.i64.wrap (n - 1) := by
    rw [e1, e2, tdiv_eq (by omega), hq, e2]
  refine Br_nf e3 ?_
  refine LdC_blk h.tab rfl ?_
  refine LoopC_intro (α := Int × Int) (fun x => [(0, .pointer (some ⟨b, 0, none⟩)), (1, .int .i64 n), (2, .int .i64 size), (8, .int .i64 x.1), (36, .int .i64 rs.length), (37, .int .i64 x.2)])
    (fun m x w2 => IsReg w2 b r words rs ∧ Fr No w w2 ∧ 0 ≤ x.1 ∧ x.1 < n ∧ x.1 ≤ x.2 ∧ x.2 ≤ rs.length ∧ m = (rs.length - x.2).toNat ∧
      (∀ (j : Nat) (y : R), x.2 - x.1 ≤ (j : Int) → (j : Int) < x.2 → rs[j]? = some y → y.1 = 0) ∧ (∀ k', k' + n ≤ x.2 → ¬ freeAt rs k' n) ∧ (∀ k', k' < x.2 - x.1 → ¬ freeAt rs k' n))
    (rs.length - 0 : Int).toNat (0, 0) ⟨rfl, rfl, rfl, rfl, rfl, rfl, trivial⟩
    ⟨h, Fr.refl _ _, (show (0 : Int) ≤ 0 by omega), (show (0 : Int) < n by omega), (show (0 : Int) ≤ 0 by omega), (show (0 : Int) ≤ rs.length by omega), rfl,
      fun j y a1 a2 => (by have : (j : Int) < 0 := a2; omega), fun k' hk hf => (by have : k' + n ≤ 0 := hk; have := hf.1; omega), fun k' hk hf => (by have : k' < (0 : Int) - 0 := hk; have := hf.1; omega)⟩ ?_
  rintro m ⟨fr, i⟩ w2 ⟨h2, f2, a0, a1, a2, a3, hm, c1, c2, c3⟩
  have a0 : 0 ≤ fr := a0
  have a1 : fr < n := a1
  have a2 : fr ≤ i := a2
  have a3 : i ≤ rs.length := a3
  have hm : m = (rs.length - i).toNat := hm
  have c1 : ∀ (j : Nat) (y : R), i - fr ≤ (j : Int) → (j : Int) < i → rs[j]? = some y → y.1 = 0 := c1
  have c2 : ∀ k', k' + n ≤ i → ¬ freeAt rs k' n := c2
  have c3 : ∀ k', k' < i - fr → ¬ freeAt rs k' n := c3
  refine Br_dec (fun g0 => ?_) (fun g0 => ?_)
  · have g0 : i < (rs.length : Int) := g0
    have ei : IntKind.i64.wrap (i + 1) = i + 1 := wrap_i64 (by omega) (by omega)
    have ef : IntKind.i64.wrap (fr + 1) = fr + 1 := wrap_i64 (by omega) (by omega)
    refine LdC_blk h2.tab rfl ?_
    refine Sd_intro ⟨by omega, g0⟩ ?_
    have hi : i.toNat < rs.length := by omega
    have hx := List.getElem?_eq_getElem hi
    generalize rs[i.toNat] = x at hx
    have hc := flat_get hx
    refine LdC_idx (v := .int .i64 x.1) h2.row (by rw [Nat.zero_add, Nat.mul_comm]; exact hc.1) ?_
    refine Br_ndec (fun g1 => ?_) (fun g1 => ?_)
    · have nf : ∀ k', k' ≤ i → i < k' + n → ¬ freeAt rs k' n := fun k' u1 u2 hf => g1 (hf.2.2 i.toNat x (by omega) (by omega) hx)
      refine ⟨(rs.length - (i + 1)).toNat, _, by omega, ?_, (0, i + 1), rfl, h2, f2, (show (0 : Int) ≤ 0 by omega), (show (0 : Int) < n by omega), (show (0 : Int) ≤ i + 1 by omega), (show i + 1 ≤ (rs.length : Int) by omega), rfl, fun j y u1 u2 => ?_, fun k' u1 => ?_, fun k' u1 => ?_⟩
      · exact ⟨rfl, rfl, rfl, rfl, rfl, look_int rfl ei, trivial⟩
      · have u1 : i + 1 - 0 ≤ (j : Int) := u1
        have u2 : (j : Int) < i + 1 := u2
        omega
      · have u1 : k' + n ≤ i + 1 := u1
        by_cases e : k' + n ≤ i
        · exact c2 k' e
        · exact nf k' (by omega) (by omega)
      · have u1 : k' < i + 1 - 0 := u1
        by_cases e : k' + n ≤ i
        · exact c2 k' e
        · exact nf k' (by omega) (by omega)
    · refine Br_dec (fun g2 => ?_) (fun g2 => ?_)
      · have g2 : IntKind.i64.wrap (fr + 1) = n := g2
        rw [ef] at g2
        have ek : IntKind.i64.wrap (IntKind.i64.wrap (i - n) + 1) = i - n + 1 := by rw [wrap_i64 (n := i - n) (by omega) (by omega), wrap_i64 (by omega) (by omega)]
        have hfree : freeAt rs (i - n + 1) n := ⟨by omega, by omega, fun j y u1 u2 hy => by
          by_cases e : (j : Int) = i
          · have : j = i.toNat := by omega
            subst this
            rw [hx] at hy; injection hy with hy; subst hy; exact g1
          · exact c1 j y (by omega) (by omega) hy⟩
        have hsz4 : size ≤ 4194304 := by
          have m1 := Int.mul_ediv_add_emod (size - 1) words
          have m2 := Int.emod_lt_of_pos (size - 1) (show 0 < words by omega)
          rw [hq] at m1
          have m3 : words * n ≤ words * (rs.length : Int) := Int.mul_le_mul_of_nonneg_left (by omega) (by omega)
          have m4 := h.n0
          rw [Int.mul_comm] at m4
          have m5 : words * (n - 1) = words * n - words := by rw [Int.mul_sub, Int.mul_one]
          omega
        have hd := hold_spec (i - n + 1) size w2 h2 (by omega) (by omega) hsz4 hs (fun q q0 hqs => by
          have : q ≤ n - 1 := by
            rw [← hq]
            exact Int.le_ediv_of_mul_le (by omega) (by omega)
          omega)
        have hd' : ∀ j : Int, j = i - n + 1 → CallC Pr f_region_Table_hold [.pointer (some ⟨b, 0, none⟩), .int .i64 j, .int .i64 size] w2 (fun _ w' => ∃ rs', held words (i - n + 1) size rs rs' ∧ IsReg w' b r words rs' ∧ Fr (· = r) w2 w') := fun j e => by subst e; exact hd
        refine CallC_intro (hd' _ ek) (fun v w3 ⟨rs', hh, h3, f3⟩ => ?_)
        refine .inl ⟨i - n + 1, rs', hfree, fun k' u1 => c3 k' (by omega), hh, ?_, h3, f2.noL f3⟩
        show Value.tuple #[.int .i64 (IntKind.i64.wrap (IntKind.i64.wrap (i - n) + 1)), .int .i64 0] = _
        rw [ek]
      · have g2 : ¬ IntKind.i64.wrap (fr + 1) = n := g2
        rw [ef] at g2
        refine ⟨(rs.length - (i + 1)).toNat, _, by omega, ?_, (fr + 1, i + 1), rfl, h2, f2, (show (0 : Int) ≤ fr + 1 by omega), (show fr + 1 < n by omega), (show fr + 1 ≤ i + 1 by omega), (show i + 1 ≤ (rs.length : Int) by omega), rfl, fun j y u1 u2 hy => ?_, fun k' u1 => ?_, fun k' u1 => ?_⟩
        · exact ⟨rfl, rfl, rfl, look_int rfl ef, rfl, look_int rfl ei, trivial⟩
        · have u1 : i + 1 - (fr + 1) ≤ (j : Int) := u1
          have u2 : (j : Int) < i + 1 := u2
          by_cases e : (j : Int) = i
          · have : j = i.toNat := by omega
            subst this
            rw [hx] at hy; injection hy with hy; subst hy; exact g1
          · exact c1 j y (by omega) (by omega) hy
        · have u1 : k' + n ≤ i + 1 := u1
          exact c3 k' (by omega)
        · have u1 : k' < i + 1 - (fr + 1) := u1
          exact c3 k' (by omega)
  · have g0 : ¬ i < (rs.length : Int) := g0
    refine .inr ⟨fun k' hf => c2 k' (by have := hf.2.1; omega) hf, rfl, h2, f2⟩
end Go.Proofs.YtdhbpklmkibmbaaGreat
/- Layer 7 (region): List, the law's awake. -/
namespace Go.Proofs.YtdhbpklmkibmbaaGreat
open Go.Vc

def idxs (s : Int) (rs : List R) (n : Nat) : List Int := ((List.range n).filter fun (k : Nat) => decide (rs[k]?.map (fun y : R => y.1) = some s)).map fun (k : Nat) => (k : Int)
theorem idxs_succ (s : Int) (rs : List R) (n : Nat) (x : R) (hx : rs[n]? = some x) : idxs s rs (n + 1) = if x.1 = s then idxs s rs n ++ [(n : Int)] else idxs s rs n := by
  unfold idxs
  rw [List.range_succ, List.filter_append, List.map_append]
  by_cases h : x.1 = s
  · simp [hx, h]
  · simp [hx, h]
theorem idxs_le (s : Int) (rs : List R) (n : Nat) : (idxs s rs n).length ≤ n := by
  unfold idxs
  rw [List.length_map]
  exact Nat.le_trans (List.length_filter_le _ _) (by simp)
theorem region_List_nil (s : Int) (w : World) : CallC Pr f_region_Table_List [.pointer none, .int .i64 s] w (fun v w' => v = .slice none 0 0 ∧ Fr No w w') := by
  refine call_sound T_ok fun_region_Table_List rfl (by kernel_rfl) rfl (Kp ?_)
  exact ⟨rfl, Fr.refl _ _⟩
theorem region_List_spec {b r : Nat} {words : Int} {rs : List R} (s : Int) (w : World) (h : IsReg w b r words rs) :
    CallC Pr f_region_Table_List [.pointer (some ⟨b, 0, none⟩), .int .i64 s] w (fun v w' => w'.ownsRow w.heap.size t_int 1 v (idxs s rs rs.length).length (ints (idxs s rs rs.length)) ∧ Fr No w w') := by
  have hlen := h.len
  refine call_sound T_ok fun_region_Table_List rfl (by kernel_rfl) rfl (Kp ?_)
  refine LdC_blk h.tab rfl ?_
  refine LoopC_intro (α := Int × Value) (fun x => [(0, .pointer (some ⟨b, 0, none⟩)), (1, .int .i64 s), (5, x.2), (13, .slice (some ⟨r, 0, none⟩) rs.length rs.length), (14, .int .i64 rs.length), (15, .int .i64 x.1)])
    (fun m x w2 => IsReg w2 b r words rs ∧ Fr No w w2 ∧ 0 ≤ x.1 ∧ x.1 ≤ rs.length ∧ m = (rs.length - x.1).toNat ∧ w2.ownsRow w.heap.size t_int 1 x.2 (idxs s rs x.1.toNat).length (ints (idxs s rs x.1.toNat)))
    (rs.length - 0 : Int).toNat (0, .slice none 0 0) ⟨rfl, rfl, rfl, rfl, rfl, rfl, trivial⟩
    ⟨h, Fr.refl _ _, (show (0 : Int) ≤ 0 by omega), (show (0 : Int) ≤ rs.length by omega), rfl, World.ownsRow_nil _ _ _ _⟩ ?_
  rintro m ⟨i, v⟩ w2 ⟨h2, f2, i0, i1, hm, hO⟩
  have i0 : 0 ≤ i := i0
  have i1 : i ≤ rs.length := i1
  have hm : m = (rs.length - i).toNat := hm
  have hO : w2.ownsRow w.heap.size t_int 1 v (idxs s rs i.toNat).length (ints (idxs s rs i.toNat)) := hO
  refine Br_dec (fun g0 => ?_) (fun g0 => ?_)
  · have g0 : i < (rs.length : Int) := g0
    have ei : IntKind.i64.wrap (i + 1) = i + 1 := wrap_i64 (by omega) (by omega)
    refine Sd_intro ⟨i0, g0⟩ ?_
    have hi : i.toNat < rs.length := by omega
    have hx := List.getElem?_eq_getElem hi
    generalize rs[i.toNat] = x at hx
    refine LdN_idx (vs := [.int .i64 x.1, .int .i32 x.2.1, .int .i32 x.2.2]) h2.row (by rw [Nat.zero_add, Nat.mul_comm]; exact flat_take hx) rfl ?_
    refine NewC_blk (fun p w3 hp h3 f3 _ => ?_)
    refine StN_blk h3 rfl (Nat.le_refl 3) (fun w4 h4 f4 _ => ?_)
    refine LdC_blk h4 (v := .int .i64 x.1) rfl ?_
    have f34 : Fr No w2 w4 := f3.new f4 (fun _ _ e => e) (fun k e => by omega)
    have f24 := f2.no f34
    have hs := idxs_succ s rs i.toNat x hx
    have hle := idxs_le s rs i.toNat
    refine Br_dec (fun g1 => ?_) (fun g1 => ?_)
    · rw [if_pos g1] at hs
      refine NewC_blk (fun p5 w5 hp5 h5 f5 _ => ?_)
      have f45 := f34.no f5
      refine ApC T_ok (e := t_int) rfl rfl rfl (by decide) (own_keep hO f45 (fun _ _ => id)) (f2.no f45).size h5 (news := [.int .i64 i]) rfl rfl rfl (by omega) (show _ * 8 ≤ 140737488355328 by omega) (fun v6 w6 o6 f6 => ?_)
      have ge : ∀ j, v.ownBlock = some j → w.heap.size ≤ j := fun j hj => own_ge hO j hj
      have f26 : Fr (fun j => v.ownBlock = some j) w2 w6 := f45.noL f6
      have hne : ¬ v.ownBlock = some b ∧ ¬ v.ownBlock = some r := ⟨fun e => by have := ge _ e; have := h.tab.lt; omega, fun e => by have := ge _ e; have := h.row.lt; omega⟩
      refine ⟨(rs.length - (i + 1)).toNat, _, by omega, ?_, (i + 1, v6), rfl, h2.keep f26 hne.1 hne.2, f2.new f26 (fun _ _ e => e) (fun j e => ge j e), (show 0 ≤ i + 1 by omega), (show i + 1 ≤ rs.length by omega), rfl, ?_⟩
      · exact ⟨rfl, rfl, rfl, rfl, rfl, look_int rfl ei, trivial⟩
      · show w6.ownsRow w.heap.size t_int 1 v6 (idxs s rs (i + 1).toNat).length (ints (idxs s rs (i + 1).toNat))
        rw [show (i + 1).toNat = i.toNat + 1 by omega, hs, List.length_append]
        have : ints (idxs s rs i.toNat ++ [((i.toNat : Nat) : Int)]) = ints (idxs s rs i.toNat) ++ [.int .i64 i] := by rw [show ((i.toNat : Nat) : Int) = i by omega]; simp [ints]
        rw [this]; exact o6
    · rw [if_neg g1] at hs
      refine ⟨(rs.length - (i + 1)).toNat, _, by omega, ?_, (i + 1, v), rfl, h2.keep f34 id id, f24, (show 0 ≤ i + 1 by omega), (show i + 1 ≤ rs.length by omega), rfl, ?_⟩
      · exact ⟨rfl, rfl, rfl, rfl, rfl, look_int rfl ei, trivial⟩
      · show w4.ownsRow w.heap.size t_int 1 v (idxs s rs (i + 1).toNat).length (ints (idxs s rs (i + 1).toNat))
        rw [show (i + 1).toNat = i.toNat + 1 by omega, hs]
        exact own_keep hO f34 (fun _ _ => id)
  · have g0 : ¬ i < (rs.length : Int) := g0
    have : i.toNat = rs.length := by omega
    rw [this] at hO
    exact ⟨hO, f2⟩
end Go.Proofs.YtdhbpklmkibmbaaGreat
