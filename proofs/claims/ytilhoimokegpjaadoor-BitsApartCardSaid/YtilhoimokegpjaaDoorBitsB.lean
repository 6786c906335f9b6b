/- Layer 1 (bits): New, Len, Has, check, Put, Drop. -/
import Derived.Test.YtilhoimokegpjaaDoorVcT
import Derived.Test.YtilhoimokegpjaaDoorBitsA
namespace Go.Proofs.YtilhoimokegpjaaDoor
open Go.Vc

def u64s (l : List Nat) : List Value := l.map fun (n : Nat) => .int .u64 (n : Int)
theorem u64s_get? {l : List Nat} {k : Nat} {x : Nat} (h : l[k]? = some x) : (u64s l)[k]? = some (.int .u64 (x : Int)) := by simp [u64s, h]
theorem u64s_set (l : List Nat) (k : Nat) (v : Nat) : (u64s l).set k (.int .u64 (v : Int)) = u64s (l.set k v) := by simp [u64s, List.map_set]
theorem u64s_len (l : List Nat) : (u64s l).length = l.length := by simp [u64s]
/-- Is a number in it? -/
def mem (ws : List Nat) (i : Nat) : Bool := (ws[i / 64]?.getD 0).testBit (i % 64)
theorem mem_word {ws : List Nat} {k x : Nat} (h : ws[k]? = some x) (j : Nat) (hj : j < 64) : mem ws (64 * k + j) = x.testBit j := by
  unfold mem
  rw [show (64 * k + j) / 64 = k by omega, h, show (64 * k + j) % 64 = j by omega]; rfl
theorem mem_set {ws : List Nat} {k : Nat} (hk : k < ws.length) (y j : Nat) : mem (ws.set k y) j = if j / 64 = k then y.testBit (j % 64) else mem ws j := by
  unfold mem
  rw [List.getElem?_set]
  by_cases h : k = j / 64
  · rw [if_pos h, if_pos (h ▸ hk), if_pos h.symm]; rfl
  · rw [if_neg h, if_neg (fun e => h e.symm)]
structure IsBitsW (w : World) (b r : Nat) (n : Int) (ws : List Nat) : Prop where
  tab : Blk w b t_bits_Set [.int .i64 n, .slice (some ⟨r, 0, none⟩) ws.length ws.length]
  row : Blk w r t_uint64 (u64s ws)
  n0 : 0 ≤ n
  n1 : n ≤ 4194304
  len : (ws.length : Int) = (n + 63) / 64
  lt : ∀ (k x : Nat), ws[k]? = some x → x < 2 ^ 64
  hi : ∀ i : Nat, mem ws i = true → (i : Int) < n
/-- A set of numbers below n, at b, its words at r. -/
def IsBits (w : World) (b r : Nat) (n : Int) (S : Nat → Bool) : Prop := ∃ ws, IsBitsW w b r n ws ∧ ∀ i, mem ws i = S i
section
variable {w w' : World} {b r : Nat} {n : Int} {ws : List Nat} {S : Nat → Bool}
theorem IsBitsW.keep {F : Nat → Prop} (h : IsBitsW w b r n ws) (f : Fr F w w') (hb : ¬ F b) (hr : ¬ F r) : IsBitsW w' b r n ws :=
  ⟨h.tab.keep f hb, h.row.keep f hr, h.n0, h.n1, h.len, h.lt, h.hi⟩
theorem IsBits.keep {F : Nat → Prop} (h : IsBits w b r n S) (f : Fr F w w') (hb : ¬ F b) (hr : ¬ F r) : IsBits w' b r n S := by
  obtain ⟨ws, h, e⟩ := h
  exact ⟨ws, h.keep f hb hr, e⟩
theorem IsBitsW.ne (h : IsBitsW w b r n ws) : b ≠ r := by
  rintro rfl
  have := (h.tab.inj h.row).2
  cases this
theorem IsBits.ne (h : IsBits w b r n S) : b ≠ r := by obtain ⟨ws, h, _⟩ := h; exact h.ne
theorem IsBits.n0 (h : IsBits w b r n S) : 0 ≤ n := by obtain ⟨ws, h, _⟩ := h; exact h.n0
theorem IsBits.n1 (h : IsBits w b r n S) : n ≤ 4194304 := by obtain ⟨ws, h, _⟩ := h; exact h.n1
theorem IsBits.hi (h : IsBits w b r n S) : ∀ i : Nat, S i = true → (i : Int) < n := by obtain ⟨ws, h, e⟩ := h; exact fun i hi => h.hi i ((e i).trans hi)
theorem IsBits.blt (h : IsBits w b r n S) : b < w.heap.size := by obtain ⟨ws, h, _⟩ := h; exact h.tab.lt
theorem IsBits.rlt (h : IsBits w b r n S) : r < w.heap.size := by obtain ⟨ws, h, _⟩ := h; exact h.row.lt
theorem IsBits.of_eq {S' : Nat → Bool} (h : IsBits w b r n S) (e : ∀ i, S i = S' i) : IsBits w b r n S' := by
  obtain ⟨ws, h, e1⟩ := h
  exact ⟨ws, h, fun i => (e1 i).trans (e i)⟩
theorem IsBitsW.set (h : IsBitsW w b r n ws) (k : Nat) (x : Nat) (hx : x < 2 ^ 64) (hh : ∀ j : Nat, j / 64 = k → x.testBit (j % 64) = true → (j : Int) < n) (h1 : Blk w' r t_uint64 (u64s (ws.set k x))) (f : Fr (· = r) w w') : IsBitsW w' b r n (ws.set k x) :=
  ⟨by rw [List.length_set]; exact h.tab.keep f h.ne, h1, h.n0, h.n1, by rw [List.length_set]; exact h.len, fun j y hy => by
    rw [List.getElem?_set] at hy
    split at hy
    · split at hy
      · injection hy with hy; subst hy; exact hx
      · cases hy
    · exact h.lt j y hy, fun i hi => by
    by_cases hk : k < ws.length
    · rw [mem_set hk] at hi
      split at hi
      · rename_i e; exact hh i e hi
      · exact h.hi i hi
    · rw [List.set_eq_of_length_le (by omega)] at hi; exact h.hi i hi⟩
theorem IsBitsW.word (h : IsBitsW w b r n ws) {i : Int} (h0 : 0 ≤ i) (h1 : i < n) : ∃ x, ws[i.toNat / 64]? = some x ∧ x < 2 ^ 64 := by
  have := h.len
  have hl : i.toNat / 64 < ws.length := by omega
  exact ⟨_, List.getElem?_eq_getElem hl, h.lt _ _ (List.getElem?_eq_getElem hl)⟩
end
theorem bits_Len_nil (w : World) : CallC Pr f_bits_Set_Len [.pointer none] w (fun v w' => v = .int .i64 0 ∧ Fr No w w') := by
  refine call_sound T_ok fun_bits_Set_Len rfl (by kernel_rfl) rfl (Kp ?_)
  exact ⟨rfl, Fr.refl _ _⟩
theorem bits_Len_spec {b r : Nat} {n : Int} {S : Nat → Bool} (w : World) (h : IsBits w b r n S) : CallC Pr f_bits_Set_Len [.pointer (some ⟨b, 0, none⟩)] w (fun v w' => v = .int .i64 n ∧ Fr No w w') := by
  obtain ⟨ws, h, _⟩ := h
  refine call_sound T_ok fun_bits_Set_Len rfl (by kernel_rfl) rfl (Kp ?_)
  refine LdC_blk h.tab rfl ?_
  exact ⟨rfl, Fr.refl _ _⟩
theorem check_nil (i : Int) (w : World) : CallC Pr f_bits_Set_check [.pointer none, .int .i64 i] w (fun v w' => v = .int .i64 1 ∧ Fr No w w') := by
  refine call_sound T_ok fun_bits_Set_check rfl (by kernel_rfl) rfl (Kp ?_)
  exact ⟨rfl, Fr.refl _ _⟩
theorem check_in {b r : Nat} {n : Int} {ws : List Nat} (i : Int) (w : World) (h : IsBitsW w b r n ws) (h0 : 0 ≤ i) (h1 : i < n) :
    CallC Pr f_bits_Set_check [.pointer (some ⟨b, 0, none⟩), .int .i64 i] w (fun v w' => v = .int .i64 0 ∧ Fr No w w') := by
  refine call_sound T_ok fun_bits_Set_check rfl (by kernel_rfl) rfl (Kp ?_)
  refine Br_df (show ¬ i < 0 by omega) ?_
  refine LdC_blk h.tab rfl ?_
  refine Br_df (show ¬ i ≥ n by omega) ?_
  exact ⟨rfl, Fr.refl _ _⟩
theorem check_out {b r : Nat} {n : Int} {ws : List Nat} (i : Int) (w : World) (h : IsBitsW w b r n ws) (h0 : ¬ (0 ≤ i ∧ i < n)) :
    CallC Pr f_bits_Set_check [.pointer (some ⟨b, 0, none⟩), .int .i64 i] w (fun v w' => v = .int .i64 2 ∧ Fr No w w') := by
  refine call_sound T_ok fun_bits_Set_check rfl (by kernel_rfl) rfl (Kp ?_)
  refine Br_dec (fun h1 => ?_) (fun h1 => ?_)
  · exact ⟨rfl, Fr.refl _ _⟩
  · have h1 : ¬ i < 0 := h1
    refine LdC_blk h.tab rfl ?_
    refine Br_dt (show i ≥ n by omega) ?_
    exact ⟨rfl, Fr.refl _ _⟩
theorem bits_New_bad (n : Int) (w : World) (h : n < 0 ∨ 4194304 < n) : CallC Pr f_bits_New [.int .i64 n] w (fun v w' => v = .tuple #[.pointer none, .int .i64 2] ∧ Fr No w w') := by
  refine call_sound T_ok fun_bits_New rfl (by kernel_rfl) rfl (Kp ?_)
  refine Br_dec (fun h0 => ?_) (fun h0 => ?_)
  · exact ⟨rfl, Fr.refl _ _⟩
  · have h0 : ¬ n < 0 := h0
    refine Br_dt (show n > 4194304 by omega) ?_
    exact ⟨rfl, Fr.refl _ _⟩
theorem shr6 {i : Int} : shiftV .shr .i64 i (6 : Int).toNat = i / 64 := by rw [shr_i64 _ (by decide)]; rfl
theorem bits_New_spec (n : Int) (w : World) (h0 : 0 ≤ n) (h1 : n ≤ 4194304) : CallC Pr f_bits_New [.int .i64 n] w (fun v w' => ∃ b r, v = .tuple #[.pointer (some ⟨b, 0, none⟩), .int .i64 0] ∧ IsBits w' b r n (fun _ => false) ∧ Fr No w w' ∧ w.heap.size ≤ b ∧ w.heap.size ≤ r) := by
  refine call_sound T_ok fun_bits_New rfl (by kernel_rfl) rfl (Kp ?_)
  refine Br_df (show ¬ n < 0 by omega) ?_
  refine Br_df (show ¬ n > 4194304 by omega) ?_
  refine Sd_intro (by omega) ?_
  have e : shiftV .shr .i64 (IntKind.i64.wrap (n + 63)) (6 : Int).toNat = (n + 63) / 64 := by
    rw [wrap_i64 (by omega) (by omega), shr6]
  refine MkC T_ok (z := .int .u64 0) rfl rfl rfl rfl (n := shiftV .shr .i64 (IntKind.i64.wrap (n + 63)) (6 : Int).toNat) (by rw [e]; omega) (by rw [e]; omega) (show (8 : Int) * shiftV .shr .i64 (IntKind.i64.wrap (n + 63)) (6 : Int).toNat ≤ _ by rw [e]; omega) (fun r w2 hr h2 f2 s2 => ?_)
  refine NewC_blk (fun b w3 hb h3 f3 s3 => ?_)
  have h3 : Blk w3 b t_bits_Set [.int .i64 n, .slice (some ⟨r, 0, none⟩) (shiftV .shr .i64 (IntKind.i64.wrap (n + 63)) (6 : Int).toNat).toNat (shiftV .shr .i64 (IntKind.i64.wrap (n + 63)) (6 : Int).toNat).toNat] := h3
  rw [e] at h3 h2
  have s2' := f2.size
  have m0 : ∀ i, mem (List.replicate ((n + 63) / 64).toNat 0) i = false := by
    intro i
    unfold mem
    cases hh : (List.replicate ((n + 63) / 64).toNat 0)[i / 64]? with
    | none => simp
    | some y =>
      have := List.mem_of_getElem? hh
      rw [List.mem_replicate] at this
      rw [this.2]; simp
  refine ⟨b, r, rfl, ⟨List.replicate ((n + 63) / 64).toNat 0, ⟨by rw [List.length_replicate]; exact h3, ?_, h0, h1, by rw [List.length_replicate]; omega, fun k x hx => ?_, fun i hi => ?_⟩, m0⟩, f2.no f3, by omega, by omega⟩
  · have e2 : u64s (List.replicate ((n + 63) / 64).toNat 0) = List.replicate ((n + 63) / 64).toNat (.int .u64 0) := by simp [u64s]
    rw [e2]
    exact h2.keep f3 id
  · have := List.mem_of_getElem? hx
    rw [List.mem_replicate] at this
    rw [this.2]; decide
  · rw [m0] at hi; cases hi
theorem kbit {i : Int} (h0 : 0 ≤ i) (h1 : i ≤ 4294967295) : IntKind.u64.wrap (Vc.bits .and .i64 i 63) = ((i.toNat % 64 : Nat) : Int) := by
  rw [and63 h0 h1, wrap_u64 (by omega) (by omega)]; omega
theorem kbit0 {i : Int} (h0 : 0 ≤ i) (h1 : i ≤ 4294967295) : 0 ≤ IntKind.u64.wrap (Vc.bits .and .i64 i 63) := by rw [kbit h0 h1]; omega
theorem kbitN {i : Int} (h0 : 0 ≤ i) (h1 : i ≤ 4294967295) : (IntKind.u64.wrap (Vc.bits .and .i64 i 63)).toNat = i.toNat % 64 := by rw [kbit h0 h1, Int.toNat_natCast]
theorem Has_nil (i : Int) (w : World) : CallC Pr f_bits_Set_Has [.pointer none, .int .i64 i] w (fun v w' => v = .bool false ∧ Fr No w w') := by
  refine call_sound T_ok fun_bits_Set_Has rfl (by kernel_rfl) rfl (Kp ?_)
  exact ⟨rfl, Fr.refl _ _⟩
/-- Is a whole number in a set? -/
def has (S : Nat → Bool) (i : Int) : Bool := decide (0 ≤ i) && S i.toNat
theorem and_one_bit (x : Nat) : x &&& 1 = if x.testBit 0 then 1 else 0 := by
  rw [Nat.and_one_is_mod, Nat.testBit_zero]
  by_cases h : x % 2 = 1
  · simp [h]
  · simp [h]; omega
theorem Has_spec {b r : Nat} {n : Int} {S : Nat → Bool} (i : Int) (w : World) (h : IsBits w b r n S) :
    CallC Pr f_bits_Set_Has [.pointer (some ⟨b, 0, none⟩), .int .i64 i] w (fun v w' => v = .bool (has S i) ∧ Fr No w w') := by
  obtain ⟨ws, h, he⟩ := h
  have hn := h.n1
  refine call_sound T_ok fun_bits_Set_Has rfl (by kernel_rfl) rfl (Kp ?_)
  refine Br_dec (fun h0 => ?_) (fun h0 => ?_)
  · have h0 : i ≥ 0 := h0
    refine LdC_blk h.tab rfl ?_
    refine Br_dec (fun h1 => ?_) (fun h1 => ?_)
    · have h1 : i < n := h1
      obtain ⟨x, hx, hx2⟩ := h.word (by omega) h1
      have hl := (List.getElem?_eq_some_iff.1 hx).1
      refine LdC_blk h.tab rfl ?_
      refine Sd_intro (by omega) ?_
      refine Sd_intro (show 0 ≤ shiftV .shr .i64 i (6 : Int).toNat ∧ shiftV .shr .i64 i (6 : Int).toNat < (ws.length : Int) by rw [shr6]; omega) ?_
      refine LdC_idx (v := .int .u64 (x : Int)) h.row (by
        show (u64s ws)[0 + (shiftV .shr .i64 i (6 : Int).toNat).toNat * 1]? = _
        rw [shr6, Nat.zero_add, Nat.mul_one, show (i / 64).toNat = i.toNat / 64 by omega]
        exact u64s_get? hx) ?_
      refine Sd_intro (kbit0 (by omega) (by omega)) ?_
      refine ⟨?_, Fr.refl _ _⟩
      show Value.bool (decide (Vc.bits .and .u64 (shiftV .shr .u64 (x : Int) (IntKind.u64.wrap (Vc.bits .and .i64 i 63)).toNat) 1 = 1)) = _
      rw [kbitN (by omega) (by omega), shr_u64 x (by omega), show (1 : Int) = ((1 : Nat) : Int) from rfl, and_u64 (shrN_lt _ hx2) (by decide), and_one_bit, shrN_bit]
      unfold has
      rw [← he, decide_eq_true (show 0 ≤ i from h0)]
      unfold mem
      rw [hx]
      simp only [Nat.add_zero, Option.getD_some, Bool.true_and]
      cases x.testBit (i.toNat % 64) <;> rfl
    · have h1 : ¬ i < n := h1
      refine ⟨?_, Fr.refl _ _⟩
      show Value.bool false = _
      unfold has
      cases hs : S i.toNat with
      | false => simp
      | true => have := h.hi i.toNat ((he _).trans hs); omega
  · have h0 : ¬ i ≥ 0 := h0
    refine ⟨?_, Fr.refl _ _⟩
    show Value.bool false = _
    unfold has
    rw [decide_eq_false (by omega)]; rfl
theorem Put_nil (i : Int) (w : World) : CallC Pr f_bits_Set_Put [.pointer none, .int .i64 i] w (fun v w' => v = .tuple #[.bool false, .int .i64 1] ∧ Fr No w w') := by
  refine call_sound T_ok fun_bits_Set_Put rfl (by kernel_rfl) rfl (Kp ?_)
  refine CallC_intro (check_nil i w) (fun v w1 ⟨hv, f1⟩ => ?_)
  subst hv
  exact ⟨rfl, f1⟩
theorem Drop_nil (i : Int) (w : World) : CallC Pr f_bits_Set_Drop [.pointer none, .int .i64 i] w (fun v w' => v = .tuple #[.bool false, .int .i64 1] ∧ Fr No w w') := by
  refine call_sound T_ok fun_bits_Set_Drop rfl (by kernel_rfl) rfl (Kp ?_)
  refine CallC_intro (check_nil i w) (fun v w1 ⟨hv, f1⟩ => ?_)
  subst hv
  exact ⟨rfl, f1⟩
theorem Put_out {b r : Nat} {n : Int} {S : Nat → Bool} (i : Int) (w : World) (h : IsBits w b r n S) (hi : ¬ (0 ≤ i ∧ i < n)) :
    CallC Pr f_bits_Set_Put [.pointer (some ⟨b, 0, none⟩), .int .i64 i] w (fun v w' => v = .tuple #[.bool false, .int .i64 2] ∧ Fr No w w') := by
  obtain ⟨ws, h, he⟩ := h
  refine call_sound T_ok fun_bits_Set_Put rfl (by kernel_rfl) rfl (Kp ?_)
  refine CallC_intro (check_out i w h hi) (fun v w1 ⟨hv, f1⟩ => ?_)
  subst hv
  exact ⟨rfl, f1⟩
theorem Drop_out {b r : Nat} {n : Int} {S : Nat → Bool} (i : Int) (w : World) (h : IsBits w b r n S) (hi : ¬ (0 ≤ i ∧ i < n)) :
    CallC Pr f_bits_Set_Drop [.pointer (some ⟨b, 0, none⟩), .int .i64 i] w (fun v w' => v = .tuple #[.bool false, .int .i64 2] ∧ Fr No w w') := by
  obtain ⟨ws, h, he⟩ := h
  refine call_sound T_ok fun_bits_Set_Drop rfl (by kernel_rfl) rfl (Kp ?_)
  refine CallC_intro (check_out i w h hi) (fun v w1 ⟨hv, f1⟩ => ?_)
  subst hv
  exact ⟨rfl, f1⟩
def bput (S : Nat → Bool) (k : Nat) : Nat → Bool := fun j => decide (j = k) || S j
def bdrop (S : Nat → Bool) (k : Nat) : Nat → Bool := fun j => !decide (j = k) && S j
theorem two_bit (k j : Nat) : (2 ^ k).testBit j = decide (k = j) := Nat.testBit_two_pow
theorem pow_lt64 {k : Nat} (h : k < 64) : 2 ^ k < 2 ^ 64 := Nat.pow_lt_pow_right (by omega) h
theorem shl_one {k : Nat} (h : k < 64) : shiftV .shl .u64 1 k = ((2 ^ k : Nat) : Int) := by
  rw [show (1 : Int) = ((1 : Nat) : Int) from rfl, shl_u64 1 (by omega), Nat.shiftLeft_eq, Nat.one_mul, Nat.mod_eq_of_lt (pow_lt64 h)]
theorem split64 {i j : Nat} : (j / 64 = i / 64 ∧ i % 64 = j % 64) ↔ j = i := by omega
theorem or_same {x k : Nat} : ((x ||| 2 ^ k) = x) ↔ x.testBit k = true := by
  constructor
  · intro h
    have := congrArg (fun y => y.testBit k) h
    simp [Nat.testBit_or] at this
    exact this
  · intro h
    apply Nat.eq_of_testBit_eq
    intro j
    rw [Nat.testBit_or, two_bit]
    by_cases e : k = j
    · subst e; simp [h]
    · simp [e]
theorem without_same {x k : Nat} (hx : x < 2 ^ 64) : (without x (2 ^ k) = x) ↔ x.testBit k = false := by
  constructor
  · intro h
    have := congrArg (fun y => y.testBit k) h
    simp [without_bit hx] at this
    exact this
  · intro h
    apply Nat.eq_of_testBit_eq
    intro j
    rw [without_bit hx, two_bit]
    by_cases e : k = j
    · subst e; simp [h]
    · simp [e]
theorem Put_spec {b r : Nat} {n : Int} {S : Nat → Bool} (i : Int) (w : World) (h : IsBits w b r n S) (h0 : 0 ≤ i) (h1 : i < n) :
    CallC Pr f_bits_Set_Put [.pointer (some ⟨b, 0, none⟩), .int .i64 i] w (fun v w' => v = .tuple #[.bool (!S i.toNat), .int .i64 0] ∧ IsBits w' b r n (bput S i.toNat) ∧ Fr (· = r) w w') := by
  obtain ⟨ws, h, he⟩ := h
  have hn := h.n1
  obtain ⟨x, hx, hx2⟩ := h.word h0 h1
  have hl := (List.getElem?_eq_some_iff.1 hx).1
  have hm := mem_word hx (i.toNat % 64) (Nat.mod_lt _ (by omega))
  rw [show 64 * (i.toNat / 64) + i.toNat % 64 = i.toNat by omega, he] at hm
  refine call_sound T_ok fun_bits_Set_Put rfl (by kernel_rfl) rfl (Kp ?_)
  refine CallC_intro (check_in i w h h0 h1) (fun v w1 ⟨hv, f1⟩ => ?_)
  subst hv
  have h := h.keep f1 id id
  have ei : ∀ l : List Value, l[0 + (shiftV .shr .i64 i (6 : Int).toNat).toNat * 1]? = l[i.toNat / 64]? := by
    intro l; rw [shr6, Nat.zero_add, Nat.mul_one, show (i / 64).toNat = i.toNat / 64 by omega]
  refine LdC_blk h.tab rfl ?_
  refine Sd_intro (by omega) ?_
  refine Sd_intro (show 0 ≤ shiftV .shr .i64 i (6 : Int).toNat ∧ shiftV .shr .i64 i (6 : Int).toNat < (ws.length : Int) by rw [shr6]; omega) ?_
  refine LdC_idx (v := .int .u64 (x : Int)) h.row (by rw [ei]; exact u64s_get? hx) ?_
  refine LdC_idx (v := .int .u64 (x : Int)) h.row (by rw [ei]; exact u64s_get? hx) ?_
  refine Sd_intro (kbit0 (by omega) (by omega)) ?_
  have ev : Vc.bits .or .u64 (x : Int) (shiftV .shl .u64 1 (IntKind.u64.wrap (Vc.bits .and .i64 i 63)).toNat) = ((x ||| 2 ^ (i.toNat % 64) : Nat) : Int) := by
    rw [kbitN (by omega) (by omega), shl_one (by omega), or_u64 hx2 (pow_lt64 (by omega))]
  refine StC_idx h.row rfl (u := .int .u64 (x : Int)) (by rw [ei]; exact u64s_get? hx) (fun w2 h2 f2 _ => ?_)
  have h2 : Blk w2 r t_uint64 ((u64s ws).set (0 + (shiftV .shr .i64 i (6 : Int).toNat).toNat * 1) (.int .u64 (Vc.bits .or .u64 (x : Int) (shiftV .shl .u64 1 (IntKind.u64.wrap (Vc.bits .and .i64 i 63)).toNat)))) := h2
  rw [ev, shr6, Nat.zero_add, Nat.mul_one, show (i / 64).toNat = i.toNat / 64 by omega, u64s_set] at h2
  have hy : x ||| 2 ^ (i.toNat % 64) < 2 ^ 64 := Nat.or_lt_two_pow hx2 (pow_lt64 (by omega))
  have h3 := h.set (i.toNat / 64) _ hy (by
    intro j hj hb
    rw [Nat.testBit_or, two_bit, Bool.or_eq_true] at hb
    rcases hb with hb | hb
    · refine h.hi j ?_
      unfold mem; rw [hj, hx]; exact hb
    · have := of_decide_eq_true hb
      omega) h2 f2
  refine LdC_idx (v := .int .u64 ((x ||| 2 ^ (i.toNat % 64) : Nat) : Int)) h3.row (by rw [ei]; exact u64s_get? (List.getElem?_set_self hl)) ?_
  refine ⟨?_, ⟨_, h3, fun j => ?_⟩, f1.noL f2⟩
  · show Value.tuple #[.bool (!decide (((x ||| 2 ^ (i.toNat % 64) : Nat) : Int) = (x : Int))), .int .i64 0] = _
    rw [hm]
    have : decide (((x ||| 2 ^ (i.toNat % 64) : Nat) : Int) = (x : Int)) = x.testBit (i.toNat % 64) := by
      rw [Bool.eq_iff_iff, decide_eq_true_iff, Int.natCast_inj, or_same]
    rw [this]
  · rw [mem_set hl]
    unfold bput
    split
    · rename_i e
      rw [Nat.testBit_or, two_bit, ← he]
      unfold mem
      rw [e, hx, Bool.or_comm]
      congr 1
      exact decide_eq_decide.2 ⟨fun h => by omega, fun h => by omega⟩
    · rename_i e
      rw [decide_eq_false (fun e2 => e (by rw [e2])), he]; rfl
theorem Drop_spec {b r : Nat} {n : Int} {S : Nat → Bool} (i : Int) (w : World) (h : IsBits w b r n S) (h0 : 0 ≤ i) (h1 : i < n) :
    CallC Pr f_bits_Set_Drop [.pointer (some ⟨b, 0, none⟩), .int .i64 i] w (fun v w' => v = .tuple #[.bool (S i.toNat), .int .i64 0] ∧ IsBits w' b r n (bdrop S i.toNat) ∧ Fr (· = r) w w') := by
  obtain ⟨ws, h, he⟩ := h
  have hn := h.n1
  obtain ⟨x, hx, hx2⟩ := h.word h0 h1
  have hl := (List.getElem?_eq_some_iff.1 hx).1
  have hm := mem_word hx (i.toNat % 64) (Nat.mod_lt _ (by omega))
  rw [show 64 * (i.toNat / 64) + i.toNat % 64 = i.toNat by omega, he] at hm
  refine call_sound T_ok fun_bits_Set_Drop rfl (by kernel_rfl) rfl (Kp ?_)
  refine CallC_intro (check_in i w h h0 h1) (fun v w1 ⟨hv, f1⟩ => ?_)
  subst hv
  have h := h.keep f1 id id
  have ei : ∀ l : List Value, l[0 + (shiftV .shr .i64 i (6 : Int).toNat).toNat * 1]? = l[i.toNat / 64]? := by
    intro l; rw [shr6, Nat.zero_add, Nat.mul_one, show (i / 64).toNat = i.toNat / 64 by omega]
  refine LdC_blk h.tab rfl ?_
  refine Sd_intro (by omega) ?_
  refine Sd_intro (show 0 ≤ shiftV .shr .i64 i (6 : Int).toNat ∧ shiftV .shr .i64 i (6 : Int).toNat < (ws.length : Int) by rw [shr6]; omega) ?_
  refine LdC_idx (v := .int .u64 (x : Int)) h.row (by rw [ei]; exact u64s_get? hx) ?_
  refine LdC_idx (v := .int .u64 (x : Int)) h.row (by rw [ei]; exact u64s_get? hx) ?_
  refine Sd_intro (kbit0 (by omega) (by omega)) ?_
  have ev : Vc.bits .andNot .u64 (x : Int) (shiftV .shl .u64 1 (IntKind.u64.wrap (Vc.bits .and .i64 i 63)).toNat) = ((without x (2 ^ (i.toNat % 64)) : Nat) : Int) := by
    rw [kbitN (by omega) (by omega), shl_one (by omega), without_u64]
  refine StC_idx h.row rfl (u := .int .u64 (x : Int)) (by rw [ei]; exact u64s_get? hx) (fun w2 h2 f2 _ => ?_)
  have h2 : Blk w2 r t_uint64 ((u64s ws).set (0 + (shiftV .shr .i64 i (6 : Int).toNat).toNat * 1) (.int .u64 (Vc.bits .andNot .u64 (x : Int) (shiftV .shl .u64 1 (IntKind.u64.wrap (Vc.bits .and .i64 i 63)).toNat)))) := h2
  rw [ev, shr6, Nat.zero_add, Nat.mul_one, show (i / 64).toNat = i.toNat / 64 by omega, u64s_set] at h2
  have h3 := h.set (i.toNat / 64) _ (without_lt _ _) (by
    intro j hj hb
    rw [without_bit hx2, Bool.and_eq_true] at hb
    refine h.hi j ?_
    unfold mem; rw [hj, hx]; exact hb.1) h2 f2
  refine LdC_idx (v := .int .u64 ((without x (2 ^ (i.toNat % 64)) : Nat) : Int)) h3.row (by rw [ei]; exact u64s_get? (List.getElem?_set_self hl)) ?_
  refine ⟨?_, ⟨_, h3, fun j => ?_⟩, f1.noL f2⟩
  · show Value.tuple #[.bool (!decide (((without x (2 ^ (i.toNat % 64)) : Nat) : Int) = (x : Int))), .int .i64 0] = _
    rw [hm]
    have : decide (((without x (2 ^ (i.toNat % 64)) : Nat) : Int) = (x : Int)) = !x.testBit (i.toNat % 64) := by
      rw [Bool.eq_iff_iff, decide_eq_true_iff, Int.natCast_inj, without_same hx2, Bool.not_eq_true']
    rw [this, Bool.not_not]
  · rw [mem_set hl]
    unfold bdrop
    split
    · rename_i e
      rw [without_bit hx2, two_bit, ← he]
      unfold mem
      rw [e, hx, Bool.and_comm]
      congr 2
      exact decide_eq_decide.2 ⟨fun h => by omega, fun h => by omega⟩
    · rename_i e
      rw [decide_eq_false (fun e2 => e (by rw [e2])), he]; rfl
end Go.Proofs.YtilhoimokegpjaaDoor
