/- Layer 7 (region): New, hold, Run, List, the law's awake. -/
import Derived.Test.YtilhoimokegpjaaRegion2
namespace Go.Proofs.Ytilhoimokegpjaa
open Go.Vc

def geomV7 : Value := .agg #[.int .i64 256, .int .i64 64, .int .i64 8, .int .i64 4, .int .i64 32, .int .i64 192]
theorem small7_spec (w : World) : CallC Pr f_gleanerlaw07_small [] w (fun v w' => v = geomV7 ∧ Fr No w w') := by
  refine call_sound T_ok fun_gleanerlaw07_small rfl (by kernel_rfl) rfl (Kp ?_)
  refine NewC_blk (fun b w1 hb h1 f1 _ => ?_)
  refine StN_blk h1 rfl (by decide) (fun w2 h2 f2 _ => ?_)
  refine LdN_blk (vs := [.int .i64 256, .int .i64 64, .int .i64 8, .int .i64 4, .int .i64 32, .int .i64 192]) h2 rfl rfl ?_
  exact ⟨rfl, f1.new f2 (fun _ _ e => e) (fun _ e => by omega)⟩
def zero4 : List R := [(0, 0, 0), (0, 0, 0), (0, 0, 0), (0, 0, 0)]
theorem region_New_aux (a0 a1 a2 a3 a4 a5 : Int) (w : World) (e0 : a0 = 256) (e1 : a1 = 64) (e3 : a3 = 4) :
    CallC Pr f_region_New [.agg #[.int .i64 a0, .int .i64 a1, .int .i64 a2, .int .i64 a3, .int .i64 a4, .int .i64 a5]] w (fun v w' => ∃ b r, v = .tuple #[.pointer (some ⟨b, 0, none⟩), .int .i64 0] ∧ IsReg w' b r 64 zero4 ∧ Fr No w w' ∧ w.heap.size ≤ b ∧ w.heap.size ≤ r) := by
  refine call_sound T_ok fun_region_New rfl (by kernel_rfl) rfl (Kp ?_)
  refine NewC_blk (fun b w1 hb h1 f1 _ => ?_)
  refine AnyC_lex T_ok mixed (by kernel_rfl) (by kernel_rfl) ?_
  refine LdS_blk h1 rfl ?_
  refine Br_df (show ¬ a3 < 1 by omega) ?_
  refine LdS_blk h1 rfl ?_
  refine Br_df (show ¬ a3 > 65536 by omega) ?_
  refine LdS_blk h1 rfl ?_
  refine Br_df (show ¬ a1 < 1 by omega) ?_
  refine LdS_blk h1 rfl ?_
  refine LdS_blk h1 rfl ?_
  refine Sd_intro (by omega) ?_
  refine Br_df (show ¬ a1 > IntKind.i64.wrap (Int.tdiv 4194304 a3) by subst e1 e3; decide) ?_
  refine LdS_blk h1 rfl ?_
  refine LdS_blk h1 rfl ?_
  refine LdS_blk h1 rfl ?_
  refine Br_nf (show a0 = IntKind.i64.wrap (a3 * a1) by subst e0 e1 e3; decide) ?_
  refine AnyC_ord [0,1,2,3,1004,5,1006,7,8] T_ok mixed (by kernel_rfl) (by kernel_rfl) ?_
  refine LdS_blk h1 rfl ?_
  refine LdS_blk h1 rfl ?_
  refine ⟨?_, trivial⟩
  refine MkN T_ok (n := a3) rfl rfl (by omega) (by omega) (show (16 : Int) * a3 ≤ _ by omega) (show a3.toNat * 3 ≠ 0 by omega) (fun r w2 hr h2' f2 s2 => ?_)
  have f1' : Fr No w w2 := (f1.no (Fr.drew w1)).no ((Fr.drew _).no f2)
  refine Sd_intro (((Fr.drew w1).no ((Fr.drew _).no f2)).old) ?_
  refine ⟨?_, trivial⟩
  refine NewC_blk (fun b3 w3 hb3 h3' f3 s3 => ?_)
  refine Sd_intro ((((Fr.drew w1).no ((Fr.drew _).no f2)).no f3).old) ?_
  have hr' : r = w1.heap.size := hr
  have hs := f1.size
  subst e1 e3
  refine ⟨b3, r, rfl, ⟨h3', h2'.keep f3 id, by omega, by decide, by decide⟩, f1'.no f3, by omega, by omega⟩
theorem region_New_spec (w : World) :
    CallC Pr f_region_New [geomV7] w (fun v w' => ∃ b r, v = .tuple #[.pointer (some ⟨b, 0, none⟩), .int .i64 0] ∧ IsReg w' b r 64 zero4 ∧ Fr No w w' ∧ w.heap.size ≤ b ∧ w.heap.size ≤ r) :=
  region_New_aux 256 64 8 4 32 192 w rfl rfl rfl
/-- What hold makes of the list. -/
def held (words i size : Int) (rs rs' : List R) : Prop :=
  rs'.length = rs.length ∧ ∀ (j : Nat) (x : R), rs[j]? = some x → rs'[j]? = some (if i ≤ j ∧ ((j : Int) - i) * words < size then (if (j : Int) = i then 4 else 5, min (size - ((j : Int) - i) * words) words, 0) else x)
theorem flat_over {rs : List R} {k : Nat} (hk : k < rs.length) (a b c : Int) : over (flat rs) (3 * k) [.int .i64 a, .int .i32 b, .int .i32 c] = flat (rs.set k (a, b, c)) := by
  have e0 := List.getElem?_eq_getElem hk
  have e1 : (rs.set k (a, rs[k].2))[k]? = some (a, rs[k].2) := by rw [List.getElem?_set_self hk]
  have e2 : ((rs.set k (a, rs[k].2)).set k (a, b, rs[k].2.2))[k]? = some (a, b, rs[k].2.2) := by rw [List.getElem?_set_self (by rw [List.length_set]; exact hk)]
  show (((flat rs).set (3 * k) (.int .i64 a)).set (3 * k + 1) (.int .i32 b)).set (3 * k + 1 + 1) (.int .i32 c) = _
  rw [(flat_set e0 a).1, (flat_set e1 b).2.1, (flat_set e2 c).2.2, List.set_set, List.set_set]
theorem hold_spec {b r : Nat} {words : Int} {rs : List R} (i size : Int) (w : World) (h : IsReg w b r words rs) (h0 : 0 ≤ i) (hi : i < rs.length) (hsz : size ≤ 4194304) (hs1 : 1 ≤ size) (hfit : ∀ q : Int, 0 ≤ q → 0 < size - q * words → i + q < rs.length) :
    CallC Pr f_region_Table_hold [.pointer (some ⟨b, 0, none⟩), .int .i64 i, .int .i64 size] w (fun _ w' => ∃ rs', held words i size rs rs' ∧ IsReg w' b r words rs' ∧ Fr (· = r) w w') := by
  have hlen := h.len
  have hw0 := h.w0
  have hle := h.le (List.getElem?_eq_getElem (show i.toNat < rs.length by omega))
  refine call_sound T_ok fun_region_Table_hold rfl (by kernel_rfl) rfl (Kp ?_)
  refine LoopC_intro (α := Int) (fun q => [(0, .pointer (some ⟨b, 0, none⟩)), (1, .int .i64 (i + q)), (2, .int .i64 (size - q * words)), (6, .int .i64 (if q = 0 then 4 else 5))])
    (fun m q w2 => ∃ rs', IsReg w2 b r words rs' ∧ Fr (· = r) w w2 ∧ 0 ≤ q ∧ (0 < q → 0 < size - (q - 1) * words) ∧ m = (rs.length + 2 - q).toNat ∧ rs'.length = rs.length ∧
      ∀ (j : Nat) (x : R), rs[j]? = some x → rs'[j]? = some (if i ≤ j ∧ (j : Int) - i < q then (if (j : Int) = i then 4 else 5, min (size - ((j : Int) - i) * words) words, 0) else x))
    (rs.length + 2 - 0 : Int).toNat 0 ?_ ?_ ?_
  · refine ⟨rfl, ?_, ?_, rfl, trivial⟩
    · exact look_int rfl (by omega)
    · exact look_int rfl (by omega)
  · refine ⟨rs, h, Fr.refl _ _, (show (0 : Int) ≤ 0 by omega), fun hq => absurd hq (by show ¬ (0 : Int) < 0; omega), rfl, rfl, fun j x hx => ?_⟩
    rw [if_neg (fun hh => by have h1 := hh.2; have : (j : Int) - i < 0 := h1; omega)]; exact hx
  rintro m q w2 ⟨rs', h2, f2, q0, qp, hm, hl, hb⟩
  refine Br_dec (fun g0 => ?_) (fun g0 => ?_)
  · have g0 : size - q * words > 0 := g0
    have hiq := hfit q q0 (by omega)
    have q1 : q * 1 ≤ q * words := Int.mul_le_mul_of_nonneg_left (by omega) q0
    refine AnyC_store T_ok mixed (by kernel_rfl) (by kernel_rfl) ?_
    refine LdS_blk h2.tab rfl ?_
    refine LdS_blk h2.tab rfl ?_
    have hk : (i + q).toNat < rs'.length := by omega
    refine Sd_intro ⟨by omega, show i + q < (rs'.length : Int) by omega⟩ ?_
    refine ⟨?_, trivial⟩
    refine StN_idx h2.row rfl (by rw [flat_len]; show 0 + (i + q).toNat * 3 + 3 ≤ 3 * rs'.length; omega) (fun w3 h3 f3 _ => ?_)
    have em : IntKind.i32.wrap (imin (size - q * words) words) = min (size - q * words) words := by rw [imin_eq, wrap_i32 (by omega) (by omega)]
    have h3 : Blk w3 r t_region_one (over (flat rs') (0 + (i + q).toNat * 3) [.int .i64 (if q = 0 then 4 else 5), .int .i32 (IntKind.i32.wrap (imin (size - q * words) words)), .int .i32 0]) := h3
    rw [Nat.zero_add, Nat.mul_comm, em, flat_over hk] at h3
    have f3 := f3.drewL
    have h4 := h2.set _ _ h3 f3 (show 0 ≤ min (size - q * words) words ∧ min (size - q * words) words ≤ words ∧ (0 : Int) ≤ 0 ∧ (0 : Int) ≤ words by omega)
    refine LdC_blk h4.tab rfl ?_
    have e2 : (q + 1) * words = q * words + words := by rw [Int.add_mul, Int.one_mul]
    refine ⟨(rs.length + 2 - (q + 1)).toNat, _, by omega, ?_, q + 1, rfl, _, h4, f2.same f3, by omega, fun _ => (by rw [show q + 1 - 1 = q by omega]; exact g0), rfl, by rw [List.length_set]; exact hl, fun j x hx => ?_⟩
    · refine ⟨rfl, ?_, ?_, ?_, trivial⟩
      · exact look_int rfl (by rw [wrap_i64 (by omega) (by omega)]; omega)
      · exact look_int rfl (by rw [wrap_i64 (by omega) (by omega)]; omega)
      · exact look_int rfl (by rw [if_neg (by omega)])
    · rw [List.getElem?_set]
      by_cases e : (i + q).toNat = j
      · rw [if_pos e, if_pos hk]
        have ej : (j : Int) - i = q := by omega
        rw [if_pos (show i ≤ (j : Int) ∧ (j : Int) - i < q + 1 by omega), ej]
        have : (q = 0) = ((j : Int) = i) := propext ⟨fun _ => by omega, fun _ => by omega⟩
        simp only [this]
      · rw [if_neg e, hb j x hx]
        have : (i ≤ (j : Int) ∧ (j : Int) - i < q) = (i ≤ (j : Int) ∧ (j : Int) - i < q + 1) := propext ⟨fun _ => by omega, fun _ => by omega⟩
        simp only [this]
  · have g0 : ¬ size - q * words > 0 := g0
    refine ⟨rs', ⟨hl, fun j x hx => ?_⟩, h2, f2⟩
    rw [hb j x hx]
    have : (i ≤ (j : Int) ∧ (j : Int) - i < q) = (i ≤ (j : Int) ∧ ((j : Int) - i) * words < size) := by
      apply propext
      constructor
      · rintro ⟨a1, a2⟩
        have := qp (by omega)
        have := Int.mul_le_mul_of_nonneg_right (show (j : Int) - i ≤ q - 1 by omega) (show 0 ≤ words by omega)
        exact ⟨a1, by omega⟩
      · rintro ⟨a1, a2⟩
        refine ⟨a1, ?_⟩
        by_cases e : (j : Int) - i < q
        · exact e
        · have := Int.mul_le_mul_of_nonneg_right (show q ≤ (j : Int) - i by omega) (show 0 ≤ words by omega)
          omega
    simp only [this]

/-- n free ones from k on. -/
def freeAt (rs : List R) (k n : Int) : Prop := 0 ≤ k ∧ k + n ≤ rs.length ∧ ∀ (j : Nat) (x : R), k ≤ j → (j : Int) < k + n → rs[j]? = some x → x.1 = 0
theorem Run_nil (n size : Int) (w : World) : CallC Pr f_region_Table_Run [.pointer none, .int .i64 n, .int .i64 size] w (fun v w' => v = .tuple #[.int .i64 0, .int .i64 1] ∧ Fr No w w') := by
  refine call_sound T_ok fun_region_Table_Run rfl (by kernel_rfl) rfl (Kp ?_)
  exact ⟨rfl, Fr.refl _ _⟩
theorem Run_spec {b r : Nat} {words : Int} {rs : List R} (n size : Int) (w : World) (h : IsReg w b r words rs) (hn : 1 ≤ n) (hs : 1 ≤ size) (hq : (size - 1) / words = n - 1) (hsz : size ≤ 9223372036854775807) (hwd : words ≤ 4194304) :
    CallC Pr f_region_Table_Run [.pointer (some ⟨b, 0, none⟩), .int .i64 n, .int .i64 size] w (fun v w' =>
      (∃ k rs', freeAt rs k n ∧ (∀ k', k' < k → ¬ freeAt rs k' n) ∧ held words k size rs rs' ∧ v = .tuple #[.int .i64 k, .int .i64 0] ∧ IsReg w' b r words rs' ∧ Fr (· = r) w w') ∨
      ((∀ k', ¬ freeAt rs k' n) ∧ v = .tuple #[.int .i64 0, .int .i64 6] ∧ IsReg w' b r words rs ∧ Fr No w w')) := by
  have hlen := h.len
  have hw0 := h.w0
  have hle : n - 1 ≤ size - 1 := by rw [← hq]; exact Int.ediv_le_self _ (by omega)
  refine call_sound T_ok fun_region_Table_Run rfl (by kernel_rfl) rfl (Kp ?_)
  refine Br_df (show ¬ n < 1 by omega) ?_
  refine Br_df (show ¬ size < 1 by omega) ?_
  refine LdC_blk h.tab rfl ?_
  refine Sd_intro (by omega) ?_
  have e1 : IntKind.i64.wrap (size - 1) = size - 1 := wrap_i64 (by omega) (by omega)
  have e2 : IntKind.i64.wrap (n - 1) = n - 1 := wrap_i64 (by omega) (by omega)
  have e3 : IntKind.i64.wrap (Int.tdiv (IntKind.i64.wrap (size - 1)) words) = IntKind.i64.wrap (n - 1) := by
    rw [e1, e2, tdiv_eq (by omega), hq, e2]
  refine Br_nf e3 ?_
  refine LdC_blk h.tab rfl ?_
  refine LoopC_intro (α := Int × Int) (fun x => [(0, .pointer (some ⟨b, 0, none⟩)), (1, .int .i64 n), (2, .int .i64 size), (8, .int .i64 x.1), (36, .int .i64 rs.length), (37, .int .i64 x.2)])
    (fun m x w2 => IsReg w2 b r words rs ∧ Fr No w w2 ∧ 0 ≤ x.1 ∧ x.1 < n ∧ x.1 ≤ x.2 ∧ x.2 ≤ rs.length ∧ m = (rs.length - x.2).toNat ∧
      (∀ (j : Nat) (y : R), x.2 - x.1 ≤ (j : Int) → (j : Int) < x.2 → rs[j]? = some y → y.1 = 0) ∧ (∀ k', k' + n ≤ x.2 → ¬ freeAt rs k' n) ∧ (∀ k', k' < x.2 - x.1 → ¬ freeAt rs k' n))
    (rs.length - 0 : Int).toNat (0, 0) ⟨rfl, rfl, rfl, rfl, rfl, rfl, trivial⟩
    ⟨h, Fr.refl _ _, (show (0 : Int) ≤ 0 by omega), (show (0 : Int) < n by omega), (show (0 : Int) ≤ 0 by omega), (show (0 : Int) ≤ rs.length by omega), rfl,
      fun j y a1 a2 => (by have : (j : Int) < 0 := a2; omega), fun k' hk hf => (by have : k' + n ≤ 0 := hk; have := hf.1; omega), fun k' hk hf => (by have : k' < (0 : Int) - 0 := hk; have := hf.1; omega)⟩ ?_
  rintro m ⟨fr, i⟩ w2 ⟨h2, f2, a0, a1, a2, a3, hm, c1, c2, c3⟩
  have a0 : 0 ≤ fr := a0
  have a1 : fr < n := a1
  have a2 : fr ≤ i := a2
  have a3 : i ≤ rs.length := a3
  have hm : m = (rs.length - i).toNat := hm
  have c1 : ∀ (j : Nat) (y : R), i - fr ≤ (j : Int) → (j : Int) < i → rs[j]? = some y → y.1 = 0 := c1
  have c2 : ∀ k', k' + n ≤ i → ¬ freeAt rs k' n := c2
  have c3 : ∀ k', k' < i - fr → ¬ freeAt rs k' n := c3
  refine Br_dec (fun g0 => ?_) (fun g0 => ?_)
  · have g0 : i < (rs.length : Int) := g0
    have ei : IntKind.i64.wrap (i + 1) = i + 1 := wrap_i64 (by omega) (by omega)
    have ef : IntKind.i64.wrap (fr + 1) = fr + 1 := wrap_i64 (by omega) (by omega)
    refine LdC_blk h2.tab rfl ?_
    refine Sd_intro ⟨by omega, g0⟩ ?_
    have hi : i.toNat < rs.length := by omega
    have hx := List.getElem?_eq_getElem hi
    generalize rs[i.toNat] = x at hx
    have hc := flat_get hx
    refine LdC_idx (v := .int .i64 x.1) h2.row (by rw [Nat.zero_add, Nat.mul_comm]; exact hc.1) ?_
    refine Br_ndec (fun g1 => ?_) (fun g1 => ?_)
    · have nf : ∀ k', k' ≤ i → i < k' + n → ¬ freeAt rs k' n := fun k' u1 u2 hf => g1 (hf.2.2 i.toNat x (by omega) (by omega) hx)
      refine ⟨(rs.length - (i + 1)).toNat, _, by omega, ?_, (0, i + 1), rfl, h2, f2, (show (0 : Int) ≤ 0 by omega), (show (0 : Int) < n by omega), (show (0 : Int) ≤ i + 1 by omega), (show i + 1 ≤ (rs.length : Int) by omega), rfl, fun j y u1 u2 => ?_, fun k' u1 => ?_, fun k' u1 => ?_⟩
      · exact ⟨rfl, rfl, rfl, rfl, rfl, look_int rfl ei, trivial⟩
      · have u1 : i + 1 - 0 ≤ (j : Int) := u1
        have u2 : (j : Int) < i + 1 := u2
        omega
      · have u1 : k' + n ≤ i + 1 := u1
        by_cases e : k' + n ≤ i
        · exact c2 k' e
        · exact nf k' (by omega) (by omega)
      · have u1 : k' < i + 1 - 0 := u1
        by_cases e : k' + n ≤ i
        · exact c2 k' e
        · exact nf k' (by omega) (by omega)
    · refine Br_dec (fun g2 => ?_) (fun g2 => ?_)
      · have g2 : IntKind.i64.wrap (fr + 1) = n := g2
        rw [ef] at g2
        have ek : IntKind.i64.wrap (IntKind.i64.wrap (i - n) + 1) = i - n + 1 := by rw [wrap_i64 (n := i - n) (by omega) (by omega), wrap_i64 (by omega) (by omega)]
        have hfree : freeAt rs (i - n + 1) n := ⟨by omega, by omega, fun j y u1 u2 hy => by
          by_cases e : (j : Int) = i
          · have : j = i.toNat := by omega
            subst this
            rw [hx] at hy; injection hy with hy; subst hy; exact g1
          · exact c1 j y (by omega) (by omega) hy⟩
        have hsz4 : size ≤ 4194304 := by
          have m1 := Int.mul_ediv_add_emod (size - 1) words
          have m2 := Int.emod_lt_of_pos (size - 1) (show 0 < words by omega)
          rw [hq] at m1
          have m3 : words * n ≤ words * (rs.length : Int) := Int.mul_le_mul_of_nonneg_left (by omega) (by omega)
          have m4 := h.n0
          rw [Int.mul_comm] at m4
          have m5 : words * (n - 1) = words * n - words := by rw [Int.mul_sub, Int.mul_one]
          omega
        have hd := hold_spec (i - n + 1) size w2 h2 (by omega) (by omega) hsz4 hs (fun q q0 hqs => by
          have : q ≤ n - 1 := by
            rw [← hq]
            exact Int.le_ediv_of_mul_le (by omega) (by omega)
          omega)
        have hd' : ∀ j : Int, j = i - n + 1 → CallC Pr f_region_Table_hold [.pointer (some ⟨b, 0, none⟩), .int .i64 j, .int .i64 size] w2 (fun _ w' => ∃ rs', held words (i - n + 1) size rs rs' ∧ IsReg w' b r words rs' ∧ Fr (· = r) w2 w') := fun j e => by subst e; exact hd
        refine CallC_intro (hd' _ ek) (fun v w3 ⟨rs', hh, h3, f3⟩ => ?_)
        refine .inl ⟨i - n + 1, rs', hfree, fun k' u1 => c3 k' (by omega), hh, ?_, h3, f2.noL f3⟩
        show Value.tuple #[.int .i64 (IntKind.i64.wrap (IntKind.i64.wrap (i - n) + 1)), .int .i64 0] = _
        rw [ek]
      · have g2 : ¬ IntKind.i64.wrap (fr + 1) = n := g2
        rw [ef] at g2
        refine ⟨(rs.length - (i + 1)).toNat, _, by omega, ?_, (fr + 1, i + 1), rfl, h2, f2, (show (0 : Int) ≤ fr + 1 by omega), (show fr + 1 < n by omega), (show fr + 1 ≤ i + 1 by omega), (show i + 1 ≤ (rs.length : Int) by omega), rfl, fun j y u1 u2 hy => ?_, fun k' u1 => ?_, fun k' u1 => ?_⟩
        · exact ⟨rfl, rfl, rfl, look_int rfl ef, rfl, look_int rfl ei, trivial⟩
        · have u1 : i + 1 - (fr + 1) ≤ (j : Int) := u1
          have u2 : (j : Int) < i + 1 := u2
          by_cases e : (j : Int) = i
          · have : j = i.toNat := by omega
            subst this
            rw [hx] at hy; injection hy with hy; subst hy; exact g1
          · exact c1 j y (by omega) (by omega) hy
        · have u1 : k' + n ≤ i + 1 := u1
          exact c3 k' (by omega)
        · have u1 : k' < i + 1 - (fr + 1) := u1
          exact c3 k' (by omega)
  · have g0 : ¬ i < (rs.length : Int) := g0
    refine .inr ⟨fun k' hf => c2 k' (by have := hf.2.1; omega) hf, rfl, h2, f2⟩
end Go.Proofs.Ytilhoimokegpjaa
