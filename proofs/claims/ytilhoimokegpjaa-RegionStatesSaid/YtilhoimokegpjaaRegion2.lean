/- Layer 7 (region): contracts of what turns it. -/
import Derived.Test.YtilhoimokegpjaaRegion
namespace Go.Proofs.Ytilhoimokegpjaa
open Go.Vc

theorem Claim_nil (s : Int) (w : World) : CallC Pr f_region_Table_Claim [.pointer none, .int .i64 s] w (fun v w' => v = .tuple #[.int .i64 0, .int .i64 1] ∧ Fr No w w') := by
  refine call_sound T_ok fun_region_Table_Claim rfl (by kernel_rfl) rfl (Kp ?_)
  exact ⟨rfl, Fr.refl _ _⟩
theorem Claim_not {b : Nat} (s : Int) (w : World) (hs : ¬ (1 ≤ s ∧ s ≤ 3)) :
    CallC Pr f_region_Table_Claim [.pointer (some ⟨b, 0, none⟩), .int .i64 s] w (fun v w' => v = .tuple #[.int .i64 0, .int .i64 3] ∧ Fr No w w') := by
  refine call_sound T_ok fun_region_Table_Claim rfl (by kernel_rfl) rfl (Kp ?_)
  refine CallC_intro (plain_spec s w) (fun v w1 ⟨hv, f1⟩ => ?_)
  rw [decide_eq_false hs] at hv
  subst hv
  exact ⟨rfl, f1⟩
/-- What Claim comes to. -/
def Claimed (s : Int) (rs rs' : List R) (v : Value) : Prop :=
  (∃ (k : Nat) (x : R), rs[k]? = some x ∧ x.1 = 0 ∧ (∀ (j : Nat) (y : R), j < k → rs[j]? = some y → y.1 ≠ 0) ∧ rs' = rs.set k (s, x.2) ∧ v = .tuple #[.int .i64 k, .int .i64 0]) ∨
  ((∀ (j : Nat) (y : R), rs[j]? = some y → y.1 ≠ 0) ∧ rs' = rs ∧ v = .tuple #[.int .i64 0, .int .i64 6])
theorem Claim_spec {b r : Nat} {words : Int} {rs : List R} (s : Int) (w : World) (h : IsReg w b r words rs) (hs : 1 ≤ s ∧ s ≤ 3) :
    CallC Pr f_region_Table_Claim [.pointer (some ⟨b, 0, none⟩), .int .i64 s] w (fun v w' => ∃ rs', Claimed s rs rs' v ∧ IsReg w' b r words rs' ∧ Fr (· = r) w w') := by
  have hlen := h.len
  refine call_sound T_ok fun_region_Table_Claim rfl (by kernel_rfl) rfl (Kp ?_)
  refine CallC_intro (plain_spec s w) (fun v w1 ⟨hv, f1⟩ => ?_)
  rw [decide_eq_true hs] at hv
  subst hv
  have h1 := h.keep f1 id id
  refine LdC_blk h1.tab rfl ?_
  refine LoopC_intro (α := Int) (fun i => [(0, .pointer (some ⟨b, 0, none⟩)), (1, .int .i64 s), (18, .int .i64 rs.length), (19, .int .i64 i)])
    (fun m i w2 => IsReg w2 b r words rs ∧ Fr No w w2 ∧ 0 ≤ i ∧ i ≤ rs.length ∧ m = (rs.length - i).toNat ∧ (∀ (j : Nat) (y : R), (j : Int) < i → rs[j]? = some y → y.1 ≠ 0))
    (rs.length - 0 : Int).toNat 0 ⟨rfl, rfl, rfl, rfl, trivial⟩ ⟨h1, f1, (show (0 : Int) ≤ 0 by omega), (show (0 : Int) ≤ rs.length by omega), rfl, fun j y hj => (by have : (j : Int) < 0 := hj; omega)⟩ ?_
  rintro m i w2 ⟨h2, f2, i0, i1, hm, hj⟩
  refine Br_dec (fun g0 => ?_) (fun g0 => ?_)
  · have g0 : i < (rs.length : Int) := g0
    refine LdC_blk h2.tab rfl ?_
    refine Sd_intro ⟨i0, g0⟩ ?_
    have hi : i.toNat < rs.length := by omega
    have hx := List.getElem?_eq_getElem hi
    generalize rs[i.toNat] = x at hx
    have hc := flat_get hx
    refine LdC_idx (v := .int .i64 x.1) h2.row (by rw [Nat.zero_add, Nat.mul_comm]; exact hc.1) ?_
    refine Br_dec (fun g1 => ?_) (fun g1 => ?_)
    · refine LdC_blk h2.tab rfl ?_
      refine Sd_intro ⟨i0, g0⟩ ?_
      refine StC_idx h2.row rfl (u := .int .i64 x.1) (by rw [Nat.zero_add, Nat.mul_comm]; exact hc.1) (fun w3 h3 f3 _ => ?_)
      rw [Nat.zero_add, Nat.mul_comm] at h3
      rw [(flat_set hx s).1] at h3
      have hu := h.us x (List.mem_of_getElem? hx)
      refine ⟨rs.set i.toNat (s, x.2), .inl ⟨i.toNat, x, hx, g1, fun j y hjk hy => hj j y (by omega) hy, rfl, ?_⟩, h2.set _ _ h3 f3 hu, f2.noL f3⟩
      rw [show ((i.toNat : Nat) : Int) = i by omega]; rfl
    · have e1 : IntKind.i64.wrap (i + 1) = i + 1 := wrap_i64 (by omega) (by omega)
      refine ⟨(rs.length - (i + 1)).toNat, _, by omega, ?_, i + 1, rfl, h2, f2, by omega, by omega, rfl, fun j y hj' hy => ?_⟩
      · exact ⟨rfl, rfl, rfl, look_int rfl e1, trivial⟩
      · by_cases e : (j : Int) < i
        · exact hj j y e hy
        · have : j = i.toNat := by omega
          subst this
          rw [hx] at hy
          injection hy with hy
          subst hy; exact g1
  · have g0 : ¬ i < (rs.length : Int) := g0
    refine ⟨rs, .inr ⟨fun j y hy => hj j y ?_ hy, rfl, rfl⟩, h2, f2.weak (fun _ _ e => e.elim)⟩
    have := (List.getElem?_eq_some_iff.1 hy).1
    omega
theorem Bump_nil (i n : Int) (w : World) : CallC Pr f_region_Table_Bump [.pointer none, .int .i64 i, .int .i64 n] w (fun v w' => v = .tuple #[.int .i64 0, .int .i64 1] ∧ Fr No w w') := by
  refine call_sound T_ok fun_region_Table_Bump rfl (by kernel_rfl) rfl (Kp ?_)
  refine CallC_intro (at_nil i w) (fun v w1 ⟨hv, f1⟩ => ?_)
  subst hv
  exact ⟨rfl, f1⟩
theorem IsReg.le {w : World} {b r : Nat} {words : Int} {rs : List R} (h : IsReg w b r words rs) {k : Nat} {x : R} (hx : rs[k]? = some x) : words ≤ 4194304 := by
  have hl := (List.getElem?_eq_some_iff.1 hx).1
  have hn := h.n0
  have hw := h.w0
  have m3 : 1 * words ≤ rs.length * words := Int.mul_le_mul_of_nonneg_right (by omega) (by omega)
  omega
theorem Bump_full {b r : Nat} {words : Int} {rs : List R} (i n : Int) (w : World) (h : IsReg w b r words rs) (h0 : 0 ≤ i) {x : R} (hx : rs[i.toNat]? = some x) (hn : 1 ≤ n) (hs : 1 ≤ x.1 ∧ x.1 ≤ 3) (hf : words - x.2.1 < n) :
    CallC Pr f_region_Table_Bump [.pointer (some ⟨b, 0, none⟩), .int .i64 i, .int .i64 n] w (fun v w' => v = .tuple #[.int .i64 0, .int .i64 6] ∧ Fr No w w') := by
  have hl : i < (rs.length : Int) := by
    have := (List.getElem?_eq_some_iff.1 hx).1
    omega
  have hu := h.us x (List.mem_of_getElem? hx)
  have hle := h.le hx
  refine call_sound T_ok fun_region_Table_Bump rfl (by kernel_rfl) rfl (Kp ?_)
  refine CallC_intro (at_in i w h h0 hl) (fun v w1 ⟨hv, f1⟩ => ?_)
  subst hv
  refine Br_df (show ¬ n < 1 by omega) ?_
  refine LdC_blk (h.row.keep f1 id) (flat_get hx).1 ?_
  refine CallC_intro (plain_spec x.1 w1) (fun v w2 ⟨hv, f2⟩ => ?_)
  rw [decide_eq_true hs] at hv
  subst hv
  have f2 := f1.no f2
  refine AnyC_lex T_ok mixed (by kernel_rfl) (by kernel_rfl) ?_
  refine LdS_blk (h.tab.keep f2 id) rfl ?_
  refine LdS_blk (h.row.keep f2 id) (flat_get hx).2.1 ?_
  refine Br_dt (show n > IntKind.i64.wrap (words - IntKind.i64.wrap x.2.1) by rw [wrap_i64 (n := x.2.1) (by omega) (by omega), wrap_i64 (by omega) (by omega)]; omega) ?_
  exact ⟨rfl, f2.drew'⟩
theorem Bump_spec {b r : Nat} {words : Int} {rs : List R} (i n : Int) (w : World) (h : IsReg w b r words rs) (h0 : 0 ≤ i) {x : R} (hx : rs[i.toNat]? = some x) (hn : 1 ≤ n) (hs : 1 ≤ x.1 ∧ x.1 ≤ 3) (hf : n ≤ words - x.2.1) :
    CallC Pr f_region_Table_Bump [.pointer (some ⟨b, 0, none⟩), .int .i64 i, .int .i64 n] w
      (fun v w' => v = .tuple #[.int .i64 (i * words + x.2.1), .int .i64 0] ∧ IsReg w' b r words (rs.set i.toNat (x.1, x.2.1 + n, x.2.2)) ∧ Fr (· = r) w w') := by
  have hl : i < (rs.length : Int) := by
    have := (List.getElem?_eq_some_iff.1 hx).1
    omega
  have hu := h.us x (List.mem_of_getElem? hx)
  have hle := h.le hx
  refine call_sound T_ok fun_region_Table_Bump rfl (by kernel_rfl) rfl (Kp ?_)
  refine CallC_intro (at_in i w h h0 hl) (fun v w1 ⟨hv, f1⟩ => ?_)
  subst hv
  refine Br_df (show ¬ n < 1 by omega) ?_
  refine LdC_blk (h.row.keep f1 id) (flat_get hx).1 ?_
  refine CallC_intro (plain_spec x.1 w1) (fun v w2 ⟨hv, f2⟩ => ?_)
  rw [decide_eq_true hs] at hv
  subst hv
  have f2 := f1.no f2
  refine AnyC_lex T_ok mixed (by kernel_rfl) (by kernel_rfl) ?_
  refine LdS_blk (h.tab.keep f2 id) rfl ?_
  refine LdS_blk (h.row.keep f2 id) (flat_get hx).2.1 ?_
  refine Br_df (show ¬ n > IntKind.i64.wrap (words - IntKind.i64.wrap x.2.1) by rw [wrap_i64 (n := x.2.1) (by omega) (by omega), wrap_i64 (by omega) (by omega)]; omega) ?_
  have f2 := f2.drew'
  refine CallC_intro (Top_spec i _ (h.keep f2 id id) h0 hx) (fun v w3 ⟨hv, f3⟩ => ?_)
  subst hv
  have h3 := (h.keep f2 id id).keep f3 id id
  refine LdC_blk h3.row (flat_get hx).2.1 ?_
  refine StC_blk h3.row rfl (flat_get hx).2.1 (fun w4 h4 f4 _ => ?_)
  have e : IntKind.i32.wrap (x.2.1 + IntKind.i32.wrap n) = x.2.1 + n := by rw [wrap_i32 (n := n) (by omega) (by omega), wrap_i32 (by omega) (by omega)]
  have h4 : Blk w4 r t_region_one ((flat rs).set (3 * i.toNat + 1) (.int .i32 (IntKind.i32.wrap (x.2.1 + IntKind.i32.wrap n)))) := h4
  rw [e, (flat_set hx _).2.1] at h4
  exact ⟨rfl, h3.set _ _ h4 f4 (show 0 ≤ x.2.1 + n ∧ x.2.1 + n ≤ words ∧ 0 ≤ x.2.2 ∧ x.2.2 ≤ words by omega), (f2.no f3).noL f4⟩
end Go.Proofs.Ytilhoimokegpjaa
