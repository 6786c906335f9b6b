/- Layer 7 (region): SetTop, Mark, Turn, Release, Bump, Claim, Run, with a table, whatever is asked. -/
import Derived.Test.YtdhbpklmkibmbaaGreatRegion4
namespace Go.Proofs.YtdhbpklmkibmbaaGreat
open Go.Vc

def rget (rs : List R) (i : Int) : Option R := if 0 ≤ i then rs[i.toNat]? else none
theorem rget_none {rs : List R} {i : Int} (h : rget rs i = none) : i < 0 ∨ (rs.length : Int) ≤ i := by
  unfold rget at h
  split at h
  · have := List.getElem?_eq_none_iff.1 h; omega
  · omega
theorem rget_some {rs : List R} {i : Int} {x : R} (h : rget rs i = some x) : 0 ≤ i ∧ i < (rs.length : Int) ∧ rs[i.toNat]? = some x := by
  unfold rget at h
  split at h
  · have := (List.getElem?_eq_some_iff.1 h).1; exact ⟨by omega, by omega, h⟩
  · cases h
def plainP (s : Int) : Prop := 1 ≤ s ∧ s ≤ 3
instance (s : Int) : Decidable (plainP s) := by unfold plainP; infer_instance
def setTopF (words i top : Int) (rs : List R) : Int × List R := match rget rs i with
  | none => (2, rs)
  | some x => if top < i * words ∨ top > (i + 1) * words then (2, rs) else if plainP x.1 then (0, rs.set i.toNat (x.1, top - i * words, x.2.2)) else (3, rs)
def markF (i : Int) (rs : List R) : Int × List R := match rget rs i with
  | none => (2, rs)
  | some x => (0, rs.set i.toNat (x.1, x.2.1, x.2.1))
def turnF (i s : Int) (rs : List R) : Int × List R := match rget rs i with
  | none => (2, rs)
  | some x => if plainP x.1 ∧ plainP s then (0, rs.set i.toNat (s, x.2.1, x.2.2)) else (3, rs)
def releaseF (i : Int) (rs : List R) : Int × List R := match rget rs i with
  | none => (2, rs)
  | some x => if x.1 = 0 then (5, rs) else (0, rs.set i.toNat (0, 0, 0))
def bumpF (words i n : Int) (rs : List R) : Int × Int × List R := match rget rs i with
  | none => (0, 2, rs)
  | some x => if n < 1 then (0, 2, rs) else if ¬ plainP x.1 then (0, 3, rs) else if n > words - x.2.1 then (0, 6, rs) else (i * words + x.2.1, 0, rs.set i.toNat (x.1, x.2.1 + n, x.2.2))
section
variable {b r : Nat} {words : Int} {rs : List R}
theorem IsReg.mul {w : World} (h : IsReg w b r words rs) {i : Int} (h0 : 0 ≤ i) (h1 : i < (rs.length : Int)) : 0 ≤ i * words ∧ (i + 1) * words = i * words + words ∧ i * words + words ≤ 4194304 := by
  have hn := h.n0
  have hw := h.w0
  have e : (i + 1) * words = i * words + words := by rw [Int.add_mul, Int.one_mul]
  have m1 : (i + 1) * words ≤ rs.length * words := Int.mul_le_mul_of_nonneg_right (by omega) (by omega)
  have m2 : 0 ≤ i * words := Int.mul_nonneg h0 (by omega)
  exact ⟨m2, e, by omega⟩
theorem SetTop_spec (i top : Int) (w : World) (h : IsReg w b r words rs) :
    CallC Pr f_region_Table_SetTop [.pointer (some ⟨b, 0, none⟩), .int .i64 i, .int .i64 top] w (fun v w' => v = .int .i64 (setTopF words i top rs).1 ∧ IsReg w' b r words (setTopF words i top rs).2 ∧ Fr (· = r) w w') := by
  refine call_sound T_ok fun_region_Table_SetTop rfl (by kernel_rfl) rfl (Kp ?_)
  unfold setTopF
  cases hx : rget rs i with
  | none =>
    refine CallC_intro (at_out i w h (rget_none hx)) (fun v w1 ⟨hv, f1⟩ => ?_)
    subst hv
    exact ⟨rfl, h.keep f1 id id, f1.weak (fun _ _ e => e.elim)⟩
  | some x =>
    obtain ⟨h0, h1, hx⟩ := rget_some hx
    obtain ⟨m0, m1, m2⟩ := h.mul h0 h1
    have hw := h.w0
    refine CallC_intro (at_in i w h h0 h1) (fun v w1 ⟨hv, f1⟩ => ?_)
    subst hv
    have h2 := h.keep f1 id id
    have hF : Fr (· = r) w w1 := f1.weak (fun _ _ e => e.elim)
    have e1 : IntKind.i64.wrap (i * words) = i * words := wrap_i64 (by omega) (by omega)
    have e2 : IntKind.i64.wrap (IntKind.i64.wrap (i + 1) * words) = (i + 1) * words := by rw [wrap_i64 (n := i + 1) (by have := h.len; omega) (by have := h.len; omega), wrap_i64 (by omega) (by omega)]
    have hc := flat_get hx
    refine LdC_blk h2.tab rfl ?_
    refine Br_dec (fun g => ?_) (fun g => ?_)
    · have g : top < IntKind.i64.wrap (i * words) := g
      rw [e1] at g
      exact ⟨by simp only; rw [if_pos (.inl g)]; rfl, by simp only; rw [if_pos (.inl g)]; exact h2, hF⟩
    · have g : ¬ top < IntKind.i64.wrap (i * words) := g
      rw [e1] at g
      refine LdC_blk h2.tab rfl ?_
      refine Br_dec (fun g1 => ?_) (fun g1 => ?_)
      · have g1 : top > IntKind.i64.wrap (IntKind.i64.wrap (i + 1) * words) := g1
        rw [e2] at g1
        exact ⟨by simp only; rw [if_pos (.inr g1)]; rfl, by simp only; rw [if_pos (.inr g1)]; exact h2, hF⟩
      · have g1 : ¬ top > IntKind.i64.wrap (IntKind.i64.wrap (i + 1) * words) := g1
        rw [e2] at g1
        have hno : ¬ (top < i * words ∨ top > (i + 1) * words) := by omega
        refine LdC_blk h2.row hc.1 ?_
        refine CallC_intro (plain_spec x.1 w1) (fun v w2 ⟨hv, f2⟩ => ?_)
        subst hv
        have h3 := h2.keep f2 id id
        have hF2 := hF.noR f2
        refine Br_ndec (fun g2 => ?_) (fun g2 => ?_)
        · have g2 : ¬ plainP x.1 := g2
          exact ⟨by simp only; rw [if_neg hno, if_neg g2]; rfl, by simp only; rw [if_neg hno, if_neg g2]; exact h3, hF2⟩
        · have g2 : plainP x.1 := g2
          refine LdC_blk h3.tab rfl ?_
          have eu : IntKind.i32.wrap (IntKind.i64.wrap (top - IntKind.i64.wrap (i * words))) = top - i * words := by
            rw [e1, wrap_i64 (by omega) (by omega), wrap_i32 (by omega) (by omega)]
          refine StC_idx h3.row rfl hc.2.1 (fun w3 h4 f3 _ => ?_)
          have h4 : Blk w3 r t_region_one ((flat rs).set (3 * i.toNat + 1) (.int .i32 (IntKind.i32.wrap (IntKind.i64.wrap (top - IntKind.i64.wrap (i * words)))))) := h4
          rw [eu, (flat_set hx _).2.1] at h4
          have hu := h.us x (List.mem_of_getElem? hx)
          refine ⟨by simp only; rw [if_neg hno, if_pos g2]; rfl, ?_, hF2.same f3⟩
          simp only
          rw [if_neg hno, if_pos g2]
          exact h3.set _ _ h4 f3 (by show 0 ≤ top - i * words ∧ top - i * words ≤ words ∧ 0 ≤ x.2.2 ∧ x.2.2 ≤ words; omega)
theorem Release_spec (i : Int) (w : World) (h : IsReg w b r words rs) :
    CallC Pr f_region_Table_Release [.pointer (some ⟨b, 0, none⟩), .int .i64 i] w (fun v w' => v = .int .i64 (releaseF i rs).1 ∧ IsReg w' b r words (releaseF i rs).2 ∧ Fr (· = r) w w') := by
  refine call_sound T_ok fun_region_Table_Release rfl (by kernel_rfl) rfl (Kp ?_)
  unfold releaseF
  cases hx : rget rs i with
  | none =>
    refine CallC_intro (at_out i w h (rget_none hx)) (fun v w1 ⟨hv, f1⟩ => ?_)
    subst hv
    exact ⟨rfl, h.keep f1 id id, f1.weak (fun _ _ e => e.elim)⟩
  | some x =>
    obtain ⟨h0, h1, hx⟩ := rget_some hx
    have hw := h.w0
    refine CallC_intro (at_in i w h h0 h1) (fun v w1 ⟨hv, f1⟩ => ?_)
    subst hv
    have h2 := h.keep f1 id id
    have hF : Fr (· = r) w w1 := f1.weak (fun _ _ e => e.elim)
    have hc := flat_get hx
    refine LdC_blk h2.row hc.1 ?_
    refine Br_dec (fun g => ?_) (fun g => ?_)
    · have g : x.1 = 0 := g
      exact ⟨by simp only; rw [if_pos g]; rfl, by simp only; rw [if_pos g]; exact h2, hF⟩
    · have g : ¬ x.1 = 0 := g
      refine StN_blk h2.row rfl (by rw [flat_len]; show 3 * i.toNat + 3 ≤ 3 * rs.length; omega) (fun w3 h3 f3 _ => ?_)
      have h3 : Blk w3 r t_region_one (over (flat rs) (3 * i.toNat) [.int .i64 0, .int .i32 0, .int .i32 0]) := h3
      rw [flat_over (by omega)] at h3
      refine ⟨by simp only; rw [if_neg g]; rfl, ?_, hF.same f3⟩
      simp only
      rw [if_neg g]
      exact h2.set _ _ h3 f3 (by show (0 : Int) ≤ 0 ∧ 0 ≤ words ∧ (0 : Int) ≤ 0 ∧ 0 ≤ words; omega)
theorem Bump_any (i n : Int) (w : World) (h : IsReg w b r words rs) :
    CallC Pr f_region_Table_Bump [.pointer (some ⟨b, 0, none⟩), .int .i64 i, .int .i64 n] w (fun v w' => v = .tuple #[.int .i64 (bumpF words i n rs).1, .int .i64 (bumpF words i n rs).2.1] ∧ IsReg w' b r words (bumpF words i n rs).2.2 ∧ Fr (· = r) w w') := by
  unfold bumpF
  cases hx : rget rs i with
  | none =>
    refine call_sound T_ok fun_region_Table_Bump rfl (by kernel_rfl) rfl (Kp ?_)
    refine CallC_intro (at_out i w h (rget_none hx)) (fun v w1 ⟨hv, f1⟩ => ?_)
    subst hv
    exact ⟨rfl, h.keep f1 id id, f1.weak (fun _ _ e => e.elim)⟩
  | some x =>
    obtain ⟨h0, h1, hx⟩ := rget_some hx
    by_cases g : n < 1
    · refine call_sound T_ok fun_region_Table_Bump rfl (by kernel_rfl) rfl (Kp ?_)
      refine CallC_intro (at_in i w h h0 h1) (fun v w1 ⟨hv, f1⟩ => ?_)
      subst hv
      refine Br_dt g ?_
      exact ⟨by simp only; rw [if_pos g]; rfl, by simp only; rw [if_pos g]; exact h.keep f1 id id, f1.weak (fun _ _ e => e.elim)⟩
    by_cases g1 : plainP x.1
    · by_cases g2 : n > words - x.2.1
      · refine CallC_intro (Bump_full i n w h h0 hx (by omega) g1 (by omega)) (fun v w1 ⟨hv, f1⟩ => ?_)
        subst hv
        refine ⟨?_, ?_, f1.weak (fun _ _ e => e.elim)⟩
        · simp only; rw [if_neg g, if_neg (not_not_intro g1), if_pos g2]
        · simp only; rw [if_neg g, if_neg (not_not_intro g1), if_pos g2]; exact h.keep f1 id id
      · refine CallC_intro (Bump_spec i n w h h0 hx (by omega) g1 (by omega)) (fun v w1 ⟨hv, h2, f1⟩ => ?_)
        subst hv
        refine ⟨?_, ?_, f1⟩
        · simp only; rw [if_neg g, if_neg (not_not_intro g1), if_neg g2]
        · simp only; rw [if_neg g, if_neg (not_not_intro g1), if_neg g2]; exact h2
    · refine call_sound T_ok fun_region_Table_Bump rfl (by kernel_rfl) rfl (Kp ?_)
      refine CallC_intro (at_in i w h h0 h1) (fun v w1 ⟨hv, f1⟩ => ?_)
      subst hv
      have h2 := h.keep f1 id id
      refine Br_df g ?_
      refine LdC_blk h2.row (flat_get hx).1 ?_
      refine CallC_intro (plain_spec x.1 w1) (fun v w2 ⟨hv, f2⟩ => ?_)
      subst hv
      refine Br_nt g1 ?_
      refine ⟨by simp only; rw [if_neg g, if_pos g1]; rfl, ?_, (f1.no f2).weak (fun _ _ e => e.elim)⟩
      simp only; rw [if_neg g, if_pos g1]; exact h2.keep f2 id id
theorem Claim_any (s : Int) (w : World) (h : IsReg w b r words rs) :
    CallC Pr f_region_Table_Claim [.pointer (some ⟨b, 0, none⟩), .int .i64 s] w (fun v w' => ∃ rs', ((plainP s ∧ Claimed s rs rs' v) ∨ (¬ plainP s ∧ rs' = rs ∧ v = .tuple #[.int .i64 0, .int .i64 3])) ∧ IsReg w' b r words rs' ∧ Fr (· = r) w w') := by
  by_cases g : plainP s
  · refine CallC_intro (Claim_spec s w h g) (fun v w1 ⟨rs', hc, h2, f1⟩ => ⟨rs', .inl ⟨g, hc⟩, h2, f1⟩)
  · refine CallC_intro (Claim_not s w g) (fun v w1 ⟨hv, f1⟩ => ⟨rs, .inr ⟨g, rfl, hv⟩, h.keep f1 id id, f1.weak (fun _ _ e => e.elim)⟩)
theorem Run_any (n size : Int) (w : World) (h : IsReg w b r words rs) (hn : -9223372036854775808 ≤ n ∧ n ≤ 9223372036854775807) (hs : size ≤ 9223372036854775807) (hwd : words ≤ 4194304) :
    CallC Pr f_region_Table_Run [.pointer (some ⟨b, 0, none⟩), .int .i64 n, .int .i64 size] w (fun v w' => ∃ rs',
      ((1 ≤ n ∧ 1 ≤ size ∧ (size - 1) / words = n - 1 ∧ ((∃ k, freeAt rs k n ∧ (∀ k', k' < k → ¬ freeAt rs k' n) ∧ held words k size rs rs' ∧ v = .tuple #[.int .i64 k, .int .i64 0]) ∨ ((∀ k', ¬ freeAt rs k' n) ∧ rs' = rs ∧ v = .tuple #[.int .i64 0, .int .i64 6]))) ∨
        (¬ (1 ≤ n ∧ 1 ≤ size ∧ (size - 1) / words = n - 1) ∧ rs' = rs ∧ v = .tuple #[.int .i64 0, .int .i64 2])) ∧ IsReg w' b r words rs' ∧ Fr (· = r) w w') := by
  by_cases g : 1 ≤ n ∧ 1 ≤ size ∧ (size - 1) / words = n - 1
  · obtain ⟨g0, g1, g2⟩ := g
    refine CallC_intro (Run_spec n size w h g0 g1 g2 hs hwd) (fun v w1 hh => ?_)
    rcases hh with ⟨k, rs', a1, a2, a3, a4, a5, a6⟩ | ⟨a1, a2, a3, a4⟩
    · exact ⟨rs', .inl ⟨g0, g1, g2, .inl ⟨k, a1, a2, a3, a4⟩⟩, a5, a6⟩
    · exact ⟨rs, .inl ⟨g0, g1, g2, .inr ⟨a1, rfl, a2⟩⟩, a3, a4.weak (fun _ _ e => e.elim)⟩
  · have hw := h.w0
    refine call_sound T_ok fun_region_Table_Run rfl (by kernel_rfl) rfl (Kp ?_)
    have fin : ∀ w', Fr No w w' → ∃ rs', ((1 ≤ n ∧ 1 ≤ size ∧ (size - 1) / words = n - 1 ∧ ((∃ k, freeAt rs k n ∧ (∀ k', k' < k → ¬ freeAt rs k' n) ∧ held words k size rs rs' ∧ Value.tuple #[.int .i64 0, .int .i64 2] = .tuple #[.int .i64 k, .int .i64 0]) ∨ ((∀ k', ¬ freeAt rs k' n) ∧ rs' = rs ∧ Value.tuple #[.int .i64 0, .int .i64 2] = .tuple #[.int .i64 0, .int .i64 6]))) ∨
        (¬ (1 ≤ n ∧ 1 ≤ size ∧ (size - 1) / words = n - 1) ∧ rs' = rs ∧ Value.tuple #[.int .i64 0, .int .i64 2] = .tuple #[.int .i64 0, .int .i64 2])) ∧ IsReg w' b r words rs' ∧ Fr (· = r) w w' :=
      fun w' f => ⟨rs, .inr ⟨g, rfl, rfl⟩, h.keep f id id, f.weak (fun _ _ e => e.elim)⟩
    refine Br_dec (fun g0 => ?_) (fun g0 => ?_)
    · exact fin w (Fr.refl _ _)
    · have g0 : ¬ n < 1 := g0
      refine Br_dec (fun g1 => ?_) (fun g1 => ?_)
      · exact fin w (Fr.refl _ _)
      · have g1 : ¬ size < 1 := g1
        refine LdC_blk h.tab rfl ?_
        refine Sd_intro (by omega) ?_
        have hq0 : 0 ≤ (size - 1) / words := Int.ediv_nonneg (by omega) (by omega)
        have hq1 : (size - 1) / words ≤ size - 1 := Int.ediv_le_self _ (by omega)
        refine Br_nt (show ¬ IntKind.i64.wrap (Int.tdiv (IntKind.i64.wrap (size - 1)) words) = IntKind.i64.wrap (n - 1) by
          rw [wrap_i64 (n := size - 1) (by omega) (by omega), tdiv_eq (by omega), wrap_i64 (n := (size - 1) / words) (by omega) (by omega)]
          rw [wrap_i64 (n := n - 1) (by omega) (by omega)]
          exact fun e => g ⟨by omega, by omega, e⟩) ?_
        exact fin w (Fr.refl _ _)
end
end Go.Proofs.YtdhbpklmkibmbaaGreat
