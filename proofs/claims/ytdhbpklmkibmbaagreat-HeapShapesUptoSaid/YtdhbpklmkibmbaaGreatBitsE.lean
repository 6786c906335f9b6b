/- Layer 1 (bits): New, Len, Has, check, Put, Drop. -/
import Derived.Test.YtdhbpklmkibmbaaGreatVcT
import Derived.Test.YtdhbpklmkibmbaaGreatBitsA
import Derived.Test.YtdhbpklmkibmbaaGreatVcL
namespace Go.Proofs.YtdhbpklmkibmbaaGreat
open Go.Vc

def u64s (l : List Nat) : List Value := l.map fun (n : Nat) => .int .u64 (n : Int)
theorem u64s_get? {l : List Nat} {k : Nat} {x : Nat} (h : l[k]? = some x) : (u64s l)[k]? = some (.int .u64 (x : Int)) := by simp [u64s, h]
theorem u64s_set (l : List Nat) (k : Nat) (v : Nat) : (u64s l).set k (.int .u64 (v : Int)) = u64s (l.set k v) := by simp [u64s, List.map_set]
theorem u64s_len (l : List Nat) : (u64s l).length = l.length := by simp [u64s]
/-- Is a number in it? -/
def mem (ws : List Nat) (i : Nat) : Bool := (ws[i / 64]?.getD 0).testBit (i % 64)
theorem mem_word {ws : List Nat} {k x : Nat} (h : ws[k]? = some x) (j : Nat) (hj : j < 64) : mem ws (64 * k + j) = x.testBit j := by
  unfold mem
  rw [show (64 * k + j) / 64 = k by omega, h, show (64 * k + j) % 64 = j by omega]; rfl
theorem mem_set {ws : List Nat} {k : Nat} (hk : k < ws.length) (y j : Nat) : mem (ws.set k y) j = if j / 64 = k then y.testBit (j % 64) else mem ws j := by
  unfold mem
  rw [List.getElem?_set]
  by_cases h : k = j / 64
  · rw [if_pos h, if_pos (h ▸ hk), if_pos h.symm]; rfl
  · rw [if_neg h, if_neg (fun e => h e.symm)]
structure IsBitsW (w : World) (b r : Nat) (n : Int) (ws : List Nat) : Prop where
  tab : Blk w b t_bits_Set [.int .i64 n, .slice (some ⟨r, 0, none⟩) ws.length ws.length]
  row : Blk w r t_uint64 (u64s ws)
  n0 : 0 ≤ n
  n1 : n ≤ 4194304
  len : (ws.length : Int) = (n + 63) / 64
  lt : ∀ (k x : Nat), ws[k]? = some x → x < 2 ^ 64
  hi : ∀ i : Nat, mem ws i = true → (i : Int) < n
/-- A set of numbers below n, at b, its words at r. -/
def IsBits (w : World) (b r : Nat) (n : Int) (S : Nat → Bool) : Prop := ∃ ws, IsBitsW w b r n ws ∧ ∀ i, mem ws i = S i
section
variable {w w' : World} {b r : Nat} {n : Int} {ws : List Nat} {S : Nat → Bool}
theorem IsBitsW.keep {F : Nat → Prop} (h : IsBitsW w b r n ws) (f : Fr F w w') (hb : ¬ F b) (hr : ¬ F r) : IsBitsW w' b r n ws :=
  ⟨h.tab.keep f hb, h.row.keep f hr, h.n0, h.n1, h.len, h.lt, h.hi⟩
theorem IsBits.keep {F : Nat → Prop} (h : IsBits w b r n S) (f : Fr F w w') (hb : ¬ F b) (hr : ¬ F r) : IsBits w' b r n S := by
  obtain ⟨ws, h, e⟩ := h
  exact ⟨ws, h.keep f hb hr, e⟩
theorem IsBitsW.ne (h : IsBitsW w b r n ws) : b ≠ r := by
  rintro rfl
  have := (h.tab.inj h.row).2
  cases this
theorem IsBits.ne (h : IsBits w b r n S) : b ≠ r := by obtain ⟨ws, h, _⟩ := h; exact h.ne
theorem IsBits.n0 (h : IsBits w b r n S) : 0 ≤ n := by obtain ⟨ws, h, _⟩ := h; exact h.n0
theorem IsBits.n1 (h : IsBits w b r n S) : n ≤ 4194304 := by obtain ⟨ws, h, _⟩ := h; exact h.n1
theorem IsBits.hi (h : IsBits w b r n S) : ∀ i : Nat, S i = true → (i : Int) < n := by obtain ⟨ws, h, e⟩ := h; exact fun i hi => h.hi i ((e i).trans hi)
theorem IsBits.blt (h : IsBits w b r n S) : b < w.heap.size := by obtain ⟨ws, h, _⟩ := h; exact h.tab.lt
theorem IsBits.rlt (h : IsBits w b r n S) : r < w.heap.size := by obtain ⟨ws, h, _⟩ := h; exact h.row.lt
theorem IsBits.of_eq {S' : Nat → Bool} (h : IsBits w b r n S) (e : ∀ i, S i = S' i) : IsBits w b r n S' := by
  obtain ⟨ws, h, e1⟩ := h
  exact ⟨ws, h, fun i => (e1 i).trans (e i)⟩
theorem IsBitsW.set (h : IsBitsW w b r n ws) (k : Nat) (x : Nat) (hx : x < 2 ^ 64) (hh : ∀ j : Nat, j / 64 = k → x.testBit (j % 64) = true → (j : Int) < n) (h1 : Blk w' r t_uint64 (u64s (ws.set k x))) (f : Fr (· = r) w w') : IsBitsW w' b r n (ws.set k x) :=
  ⟨by rw [List.length_set]; exact h.tab.keep f h.ne, h1, h.n0, h.n1, by rw [List.length_set]; exact h.len, fun j y hy => by
    rw [List.getElem?_set] at hy
    split at hy
    · split at hy
      · injection hy with hy; subst hy; exact hx
      · cases hy
    · exact h.lt j y hy, fun i hi => by
    by_cases hk : k < ws.length
    · rw [mem_set hk] at hi
      split at hi
      · rename_i e; exact hh i e hi
      · exact h.hi i hi
    · rw [List.set_eq_of_length_le (by omega)] at hi; exact h.hi i hi⟩
theorem IsBitsW.word (h : IsBitsW w b r n ws) {i : Int} (h0 : 0 ≤ i) (h1 : i < n) : ∃ x, ws[i.toNat / 64]? = some x ∧ x < 2 ^ 64 := by
  have := h.len
  have hl : i.toNat / 64 < ws.length := by omega
  exact ⟨_, List.getElem?_eq_getElem hl, h.lt _ _ (List.getElem?_eq_getElem hl)⟩
end
theorem check_nil (i : Int) (w : World) : CallC Pr f_bits_Set_check [.pointer none, .int .i64 i] w (fun v w' => v = .int .i64 1 ∧ Fr No w w') := by
  refine call_sound T_ok fun_bits_Set_check rfl (by kernel_rfl) rfl (Kp ?_)
  exact ⟨rfl, Fr.refl _ _⟩
theorem check_in {b r : Nat} {n : Int} {ws : List Nat} (i : Int) (w : World) (h : IsBitsW w b r n ws) (h0 : 0 ≤ i) (h1 : i < n) :
    CallC Pr f_bits_Set_check [.pointer (some ⟨b, 0, none⟩), .int .i64 i] w (fun v w' => v = .int .i64 0 ∧ Fr No w w') := by
  refine call_sound T_ok fun_bits_Set_check rfl (by kernel_rfl) rfl (Kp ?_)
  refine Br_df (show ¬ i < 0 by omega) ?_
  refine LdC_blk h.tab rfl ?_
  refine Br_df (show ¬ i ≥ n by omega) ?_
  exact ⟨rfl, Fr.refl _ _⟩
theorem check_out {b r : Nat} {n : Int} {ws : List Nat} (i : Int) (w : World) (h : IsBitsW w b r n ws) (h0 : ¬ (0 ≤ i ∧ i < n)) :
    CallC Pr f_bits_Set_check [.pointer (some ⟨b, 0, none⟩), .int .i64 i] w (fun v w' => v = .int .i64 2 ∧ Fr No w w') := by
  refine call_sound T_ok fun_bits_Set_check rfl (by kernel_rfl) rfl (Kp ?_)
  refine Br_dec (fun h1 => ?_) (fun h1 => ?_)
  · exact ⟨rfl, Fr.refl _ _⟩
  · have h1 : ¬ i < 0 := h1
    refine LdC_blk h.tab rfl ?_
    refine Br_dt (show i ≥ n by omega) ?_
    exact ⟨rfl, Fr.refl _ _⟩
theorem bits_New_bad (n : Int) (w : World) (h : n < 0 ∨ 4194304 < n) : CallC Pr f_bits_New [.int .i64 n] w (fun v w' => v = .tuple #[.pointer none, .int .i64 2] ∧ Fr No w w') := by
  refine call_sound T_ok fun_bits_New rfl (by kernel_rfl) rfl (Kp ?_)
  refine Br_dec (fun h0 => ?_) (fun h0 => ?_)
  · exact ⟨rfl, Fr.refl _ _⟩
  · have h0 : ¬ n < 0 := h0
    refine Br_dt (show n > 4194304 by omega) ?_
    exact ⟨rfl, Fr.refl _ _⟩
theorem shr6 {i : Int} : shiftV .shr .i64 i (6 : Int).toNat = i / 64 := by rw [shr_i64 _ (by decide)]; rfl
theorem bits_New_spec (n : Int) (w : World) (h0 : 0 ≤ n) (h1 : n ≤ 4194304) : CallC Pr f_bits_New [.int .i64 n] w (fun v w' => ∃ b r, v = .tuple #[.pointer (some ⟨b, 0, none⟩), .int .i64 0] ∧ IsBits w' b r n (fun _ => false) ∧ Fr No w w' ∧ w.heap.size ≤ b ∧ w.heap.size ≤ r) := by
  refine call_sound T_ok fun_bits_New rfl (by kernel_rfl) rfl (Kp ?_)
  refine Br_df (show ¬ n < 0 by omega) ?_
  refine Br_df (show ¬ n > 4194304 by omega) ?_
  refine Sd_intro (by omega) ?_
  have e : shiftV .shr .i64 (IntKind.i64.wrap (n + 63)) (6 : Int).toNat = (n + 63) / 64 := by
    rw [wrap_i64 (by omega) (by omega), shr6]
  refine MkC T_ok (z := .int .u64 0) rfl rfl rfl rfl (n := shiftV .shr .i64 (IntKind.i64.wrap (n + 63)) (6 : Int).toNat) (by rw [e]; omega) (by rw [e]; omega) (show (8 : Int) * shiftV .shr .i64 (IntKind.i64.wrap (n + 63)) (6 : Int).toNat ≤ _ by rw [e]; omega) (fun r w2 hr h2 f2 s2 => ?_)
  refine NewC_blk (fun b w3 hb h3 f3 s3 => ?_)
  have h3 : Blk w3 b t_bits_Set [.int .i64 n, .slice (some ⟨r, 0, none⟩) (shiftV .shr .i64 (IntKind.i64.wrap (n + 63)) (6 : Int).toNat).toNat (shiftV .shr .i64 (IntKind.i64.wrap (n + 63)) (6 : Int).toNat).toNat] := h3
  rw [e] at h3 h2
  have s2' := f2.size
  have m0 : ∀ i, mem (List.replicate ((n + 63) / 64).toNat 0) i = false := by
    intro i
    unfold mem
    cases hh : (List.replicate ((n + 63) / 64).toNat 0)[i / 64]? with
    | none => simp
    | some y =>
      have := List.mem_of_getElem? hh
      rw [List.mem_replicate] at this
      rw [this.2]; simp
  refine ⟨b, r, rfl, ⟨List.replicate ((n + 63) / 64).toNat 0, ⟨by rw [List.length_replicate]; exact h3, ?_, h0, h1, by rw [List.length_replicate]; omega, fun k x hx => ?_, fun i hi => ?_⟩, m0⟩, f2.no f3, by omega, by omega⟩
  · have e2 : u64s (List.replicate ((n + 63) / 64).toNat 0) = List.replicate ((n + 63) / 64).toNat (.int .u64 0) := by simp [u64s]
    rw [e2]
    exact h2.keep f3 id
  · have := List.mem_of_getElem? hx
    rw [List.mem_replicate] at this
    rw [this.2]; decide
  · rw [m0] at hi; cases hi
theorem kbit {i : Int} (h0 : 0 ≤ i) (h1 : i ≤ 4294967295) : IntKind.u64.wrap (Vc.bits .and .i64 i 63) = ((i.toNat % 64 : Nat) : Int) := by
  rw [and63 h0 h1, wrap_u64 (by omega) (by omega)]; omega
theorem kbit0 {i : Int} (h0 : 0 ≤ i) (h1 : i ≤ 4294967295) : 0 ≤ IntKind.u64.wrap (Vc.bits .and .i64 i 63) := by rw [kbit h0 h1]; omega
theorem kbitN {i : Int} (h0 : 0 ≤ i) (h1 : i ≤ 4294967295) : (IntKind.u64.wrap (Vc.bits .and .i64 i 63)).toNat = i.toNat % 64 := by rw [kbit h0 h1, Int.toNat_natCast]
theorem Has_nil (i : Int) (w : World) : CallC Pr f_bits_Set_Has [.pointer none, .int .i64 i] w (fun v w' => v = .bool false ∧ Fr No w w') := by
  refine call_sound T_ok fun_bits_Set_Has rfl (by kernel_rfl) rfl (Kp ?_)
  exact ⟨rfl, Fr.refl _ _⟩
/-- Is a whole number in a set? -/
def has (S : Nat → Bool) (i : Int) : Bool := decide (0 ≤ i) && S i.toNat
theorem and_one_bit (x : Nat) : x &&& 1 = if x.testBit 0 then 1 else 0 := by
  rw [Nat.and_one_is_mod, Nat.testBit_zero]
  by_cases h : x % 2 = 1
  · simp [h]
  · simp [h]; omega
theorem Has_spec {b r : Nat} {n : Int} {S : Nat → Bool} (i : Int) (w : World) (h : IsBits w b r n S) :
    CallC Pr f_bits_Set_Has [.pointer (some ⟨b, 0, none⟩), .int .i64 i] w (fun v w' => v = .bool (has S i) ∧ Fr No w w') := by
  obtain ⟨ws, h, he⟩ := h
  have hn := h.n1
  refine call_sound T_ok fun_bits_Set_Has rfl (by kernel_rfl) rfl (Kp ?_)
  refine Br_dec (fun h0 => ?_) (fun h0 => ?_)
  · have h0 : i ≥ 0 := h0
    refine LdC_blk h.tab rfl ?_
    refine Br_dec (fun h1 => ?_) (fun h1 => ?_)
    · have h1 : i < n := h1
      obtain ⟨x, hx, hx2⟩ := h.word (by omega) h1
      have hl := (List.getElem?_eq_some_iff.1 hx).1
      refine LdC_blk h.tab rfl ?_
      refine Sd_intro (by omega) ?_
      refine Sd_intro (show 0 ≤ shiftV .shr .i64 i (6 : Int).toNat ∧ shiftV .shr .i64 i (6 : Int).toNat < (ws.length : Int) by rw [shr6]; omega) ?_
      refine LdC_idx (v := .int .u64 (x : Int)) h.row (by
        show (u64s ws)[0 + (shiftV .shr .i64 i (6 : Int).toNat).toNat * 1]? = _
        rw [shr6, Nat.zero_add, Nat.mul_one, show (i / 64).toNat = i.toNat / 64 by omega]
        exact u64s_get? hx) ?_
      refine Sd_intro (kbit0 (by omega) (by omega)) ?_
      refine ⟨?_, Fr.refl _ _⟩
      show Value.bool (decide (Vc.bits .and .u64 (shiftV .shr .u64 (x : Int) (IntKind.u64.wrap (Vc.bits .and .i64 i 63)).toNat) 1 = 1)) = _
      rw [kbitN (by omega) (by omega), shr_u64 x (by omega), show (1 : Int) = ((1 : Nat) : Int) from rfl, and_u64 (shrN_lt _ hx2) (by decide), and_one_bit, shrN_bit]
      unfold has
      rw [← he, decide_eq_true (show 0 ≤ i from h0)]
      unfold mem
      rw [hx]
      simp only [Nat.add_zero, Option.getD_some, Bool.true_and]
      cases x.testBit (i.toNat % 64) <;> rfl
    · have h1 : ¬ i < n := h1
      refine ⟨?_, Fr.refl _ _⟩
      show Value.bool false = _
      unfold has
      cases hs : S i.toNat with
      | false => simp
      | true => have := h.hi i.toNat ((he _).trans hs); omega
  · have h0 : ¬ i ≥ 0 := h0
    refine ⟨?_, Fr.refl _ _⟩
    show Value.bool false = _
    unfold has
    rw [decide_eq_false (by omega)]; rfl
theorem Put_nil (i : Int) (w : World) : CallC Pr f_bits_Set_Put [.pointer none, .int .i64 i] w (fun v w' => v = .tuple #[.bool false, .int .i64 1] ∧ Fr No w w') := by
  refine call_sound T_ok fun_bits_Set_Put rfl (by kernel_rfl) rfl (Kp ?_)
  refine CallC_intro (check_nil i w) (fun v w1 ⟨hv, f1⟩ => ?_)
  subst hv
  exact ⟨rfl, f1⟩
theorem Drop_nil (i : Int) (w : World) : CallC Pr f_bits_Set_Drop [.pointer none, .int .i64 i] w (fun v w' => v = .tuple #[.bool false, .int .i64 1] ∧ Fr No w w') := by
  refine call_sound T_ok fun_bits_Set_Drop rfl (by kernel_rfl) rfl (Kp ?_)
  refine CallC_intro (check_nil i w) (fun v w1 ⟨hv, f1⟩ => ?_)
  subst hv
  exact ⟨rfl, f1⟩
theorem Put_out {b r : Nat} {n : Int} {S : Nat → Bool} (i : Int) (w : World) (h : IsBits w b r n S) (hi : ¬ (0 ≤ i ∧ i < n)) :
    CallC Pr f_bits_Set_Put [.pointer (some ⟨b, 0, none⟩), .int .i64 i] w (fun v w' => v = .tuple #[.bool false, .int .i64 2] ∧ Fr No w w') := by
  obtain ⟨ws, h, he⟩ := h
  refine call_sound T_ok fun_bits_Set_Put rfl (by kernel_rfl) rfl (Kp ?_)
  refine CallC_intro (check_out i w h hi) (fun v w1 ⟨hv, f1⟩ => ?_)
  subst hv
  exact ⟨rfl, f1⟩
theorem Drop_out {b r : Nat} {n : Int} {S : Nat → Bool} (i : Int) (w : World) (h : IsBits w b r n S) (hi : ¬ (0 ≤ i ∧ i < n)) :
    CallC Pr f_bits_Set_Drop [.pointer (some ⟨b, 0, none⟩), .int .i64 i] w (fun v w' => v = .tuple #[.bool false, .int .i64 2] ∧ Fr No w w') := by
  obtain ⟨ws, h, he⟩ := h
  refine call_sound T_ok fun_bits_Set_Drop rfl (by kernel_rfl) rfl (Kp ?_)
  refine CallC_intro (check_out i w h hi) (fun v w1 ⟨hv, f1⟩ => ?_)
  subst hv
  exact ⟨rfl, f1⟩
def bput (S : Nat → Bool) (k : Nat) : Nat → Bool := fun j => decide (j = k) || S j
def bdrop (S : Nat → Bool) (k : Nat) : Nat → Bool := fun j => !decide (j = k) && S j
theorem two_bit (k j : Nat) : (2 ^ k).testBit j = decide (k = j) := Nat.testBit_two_pow
theorem pow_lt64 {k : Nat} (h : k < 64) : 2 ^ k < 2 ^ 64 := Nat.pow_lt_pow_right (by omega) h
theorem shl_one {k : Nat} (h : k < 64) : shiftV .shl .u64 1 k = ((2 ^ k : Nat) : Int) := by
  rw [show (1 : Int) = ((1 : Nat) : Int) from rfl, shl_u64 1 (by omega), Nat.shiftLeft_eq, Nat.one_mul, Nat.mod_eq_of_lt (pow_lt64 h)]
theorem split64 {i j : Nat} : (j / 64 = i / 64 ∧ i % 64 = j % 64) ↔ j = i := by omega
theorem or_same {x k : Nat} : ((x ||| 2 ^ k) = x) ↔ x.testBit k = true := by
  constructor
  · intro h
    have := congrArg (fun y => y.testBit k) h
    simp [Nat.testBit_or] at this
    exact this
  · intro h
    apply Nat.eq_of_testBit_eq
    intro j
    rw [Nat.testBit_or, two_bit]
    by_cases e : k = j
    · subst e; simp [h]
    · simp [e]
theorem without_same {x k : Nat} (hx : x < 2 ^ 64) : (without x (2 ^ k) = x) ↔ x.testBit k = false := by
  constructor
  · intro h
    have := congrArg (fun y => y.testBit k) h
    simp [without_bit hx] at this
    exact this
  · intro h
    apply Nat.eq_of_testBit_eq
    intro j
    rw [without_bit hx, two_bit]
    by_cases e : k = j
    · subst e; simp [h]
    · simp [e]
theorem Put_spec {b r : Nat} {n : Int} {S : Nat → Bool} (i : Int) (w : World) (h : IsBits w b r n S) (h0 : 0 ≤ i) (h1 : i < n) :
    CallC Pr f_bits_Set_Put [.pointer (some ⟨b, 0, none⟩), .int .i64 i] w (fun v w' => v = .tuple #[.bool (!S i.toNat), .int .i64 0] ∧ IsBits w' b r n (bput S i.toNat) ∧ Fr (· = r) w w') := by
  obtain ⟨ws, h, he⟩ := h
  have hn := h.n1
  obtain ⟨x, hx, hx2⟩ := h.word h0 h1
  have hl := (List.getElem?_eq_some_iff.1 hx).1
  have hm := mem_word hx (i.toNat % 64) (Nat.mod_lt _ (by omega))
  rw [show 64 * (i.toNat / 64) + i.toNat % 64 = i.toNat by omega, he] at hm
  refine call_sound T_ok fun_bits_Set_Put rfl (by kernel_rfl) rfl (Kp ?_)
  refine CallC_intro (check_in i w h h0 h1) (fun v w1 ⟨hv, f1⟩ => ?_)
  subst hv
  have h := h.keep f1 id id
  have ei : ∀ l : List Value, l[0 + (shiftV .shr .i64 i (6 : Int).toNat).toNat * 1]? = l[i.toNat / 64]? := by
    intro l; rw [shr6, Nat.zero_add, Nat.mul_one, show (i / 64).toNat = i.toNat / 64 by omega]
  refine LdC_blk h.tab rfl ?_
  refine Sd_intro (by omega) ?_
  refine Sd_intro (show 0 ≤ shiftV .shr .i64 i (6 : Int).toNat ∧ shiftV .shr .i64 i (6 : Int).toNat < (ws.length : Int) by rw [shr6]; omega) ?_
  refine LdC_idx (v := .int .u64 (x : Int)) h.row (by rw [ei]; exact u64s_get? hx) ?_
  refine LdC_idx (v := .int .u64 (x : Int)) h.row (by rw [ei]; exact u64s_get? hx) ?_
  refine Sd_intro (kbit0 (by omega) (by omega)) ?_
  have ev : Vc.bits .or .u64 (x : Int) (shiftV .shl .u64 1 (IntKind.u64.wrap (Vc.bits .and .i64 i 63)).toNat) = ((x ||| 2 ^ (i.toNat % 64) : Nat) : Int) := by
    rw [kbitN (by omega) (by omega), shl_one (by omega), or_u64 hx2 (pow_lt64 (by omega))]
  refine StC_idx h.row rfl (u := .int .u64 (x : Int)) (by rw [ei]; exact u64s_get? hx) (fun w2 h2 f2 _ => ?_)
  have h2 : Blk w2 r t_uint64 ((u64s ws).set (0 + (shiftV .shr .i64 i (6 : Int).toNat).toNat * 1) (.int .u64 (Vc.bits .or .u64 (x : Int) (shiftV .shl .u64 1 (IntKind.u64.wrap (Vc.bits .and .i64 i 63)).toNat)))) := h2
  rw [ev, shr6, Nat.zero_add, Nat.mul_one, show (i / 64).toNat = i.toNat / 64 by omega, u64s_set] at h2
  have hy : x ||| 2 ^ (i.toNat % 64) < 2 ^ 64 := Nat.or_lt_two_pow hx2 (pow_lt64 (by omega))
  have h3 := h.set (i.toNat / 64) _ hy (by
    intro j hj hb
    rw [Nat.testBit_or, two_bit, Bool.or_eq_true] at hb
    rcases hb with hb | hb
    · refine h.hi j ?_
      unfold mem; rw [hj, hx]; exact hb
    · have := of_decide_eq_true hb
      omega) h2 f2
  refine LdC_idx (v := .int .u64 ((x ||| 2 ^ (i.toNat % 64) : Nat) : Int)) h3.row (by rw [ei]; exact u64s_get? (List.getElem?_set_self hl)) ?_
  refine ⟨?_, ⟨_, h3, fun j => ?_⟩, f1.noL f2⟩
  · show Value.tuple #[.bool (!decide (((x ||| 2 ^ (i.toNat % 64) : Nat) : Int) = (x : Int))), .int .i64 0] = _
    rw [hm]
    have : decide (((x ||| 2 ^ (i.toNat % 64) : Nat) : Int) = (x : Int)) = x.testBit (i.toNat % 64) := by
      rw [Bool.eq_iff_iff, decide_eq_true_iff, Int.natCast_inj, or_same]
    rw [this]
  · rw [mem_set hl]
    unfold bput
    split
    · rename_i e
      rw [Nat.testBit_or, two_bit, ← he]
      unfold mem
      rw [e, hx, Bool.or_comm]
      congr 1
      exact decide_eq_decide.2 ⟨fun h => by omega, fun h => by omega⟩
    · rename_i e
      rw [decide_eq_false (fun e2 => e (by rw [e2])), he]; rfl
theorem Drop_spec {b r : Nat} {n : Int} {S : Nat → Bool} (i : Int) (w : World) (h : IsBits w b r n S) (h0 : 0 ≤ i) (h1 : i < n) :
    CallC Pr f_bits_Set_Drop [.pointer (some ⟨b, 0, none⟩), .int .i64 i] w (fun v w' => v = .tuple #[.bool (S i.toNat), .int .i64 0] ∧ IsBits w' b r n (bdrop S i.toNat) ∧ Fr (· = r) w w') := by
  obtain ⟨ws, h, he⟩ := h
  have hn := h.n1
  obtain ⟨x, hx, hx2⟩ := h.word h0 h1
  have hl := (List.getElem?_eq_some_iff.1 hx).1
  have hm := mem_word hx (i.toNat % 64) (Nat.mod_lt _ (by omega))
  rw [show 64 * (i.toNat / 64) + i.toNat % 64 = i.toNat by omega, he] at hm
  refine call_sound T_ok fun_bits_Set_Drop rfl (by kernel_rfl) rfl (Kp ?_)
  refine CallC_intro (check_in i w h h0 h1) (fun v w1 ⟨hv, f1⟩ => ?_)
  subst hv
  have h := h.keep f1 id id
  have ei : ∀ l : List Value, l[0 + (shiftV .shr .i64 i (6 : Int).toNat).toNat * 1]? = l[i.toNat / 64]? := by
    intro l; rw [shr6, Nat.zero_add, Nat.mul_one, show (i / 64).toNat = i.toNat / 64 by omega]
  refine LdC_blk h.tab rfl ?_
  refine Sd_intro (by omega) ?_
  refine Sd_intro (show 0 ≤ shiftV .shr .i64 i (6 : Int).toNat ∧ shiftV .shr .i64 i (6 : Int).toNat < (ws.length : Int) by rw [shr6]; omega) ?_
  refine LdC_idx (v := .int .u64 (x : Int)) h.row (by rw [ei]; exact u64s_get? hx) ?_
  refine LdC_idx (v := .int .u64 (x : Int)) h.row (by rw [ei]; exact u64s_get? hx) ?_
  refine Sd_intro (kbit0 (by omega) (by omega)) ?_
  have ev : Vc.bits .andNot .u64 (x : Int) (shiftV .shl .u64 1 (IntKind.u64.wrap (Vc.bits .and .i64 i 63)).toNat) = ((without x (2 ^ (i.toNat % 64)) : Nat) : Int) := by
    rw [kbitN (by omega) (by omega), shl_one (by omega), without_u64]
  refine StC_idx h.row rfl (u := .int .u64 (x : Int)) (by rw [ei]; exact u64s_get? hx) (fun w2 h2 f2 _ => ?_)
  have h2 : Blk w2 r t_uint64 ((u64s ws).set (0 + (shiftV .shr .i64 i (6 : Int).toNat).toNat * 1) (.int .u64 (Vc.bits .andNot .u64 (x : Int) (shiftV .shl .u64 1 (IntKind.u64.wrap (Vc.bits .and .i64 i 63)).toNat)))) := h2
  rw [ev, shr6, Nat.zero_add, Nat.mul_one, show (i / 64).toNat = i.toNat / 64 by omega, u64s_set] at h2
  have h3 := h.set (i.toNat / 64) _ (without_lt _ _) (by
    intro j hj hb
    rw [without_bit hx2, Bool.and_eq_true] at hb
    refine h.hi j ?_
    unfold mem; rw [hj, hx]; exact hb.1) h2 f2
  refine LdC_idx (v := .int .u64 ((without x (2 ^ (i.toNat % 64)) : Nat) : Int)) h3.row (by rw [ei]; exact u64s_get? (List.getElem?_set_self hl)) ?_
  refine ⟨?_, ⟨_, h3, fun j => ?_⟩, f1.noL f2⟩
  · show Value.tuple #[.bool (!decide (((without x (2 ^ (i.toNat % 64)) : Nat) : Int) = (x : Int))), .int .i64 0] = _
    rw [hm]
    have : decide (((without x (2 ^ (i.toNat % 64)) : Nat) : Int) = (x : Int)) = !x.testBit (i.toNat % 64) := by
      rw [Bool.eq_iff_iff, decide_eq_true_iff, Int.natCast_inj, without_same hx2, Bool.not_eq_true']
    rw [this, Bool.not_not]
  · rw [mem_set hl]
    unfold bdrop
    split
    · rename_i e
      rw [without_bit hx2, two_bit, ← he]
      unfold mem
      rw [e, hx, Bool.and_comm]
      congr 2
      exact decide_eq_decide.2 ⟨fun h => by omega, fun h => by omega⟩
    · rename_i e
      rw [decide_eq_false (fun e2 => e (by rw [e2])), he]; rfl
end Go.Proofs.YtdhbpklmkibmbaaGreat
/- Layer 1 (bits): the library's two functions, mask, Next, Count, Fill, List. -/
namespace Go.Proofs.YtdhbpklmkibmbaaGreat
open Go.Vc

theorem sumB_lt {f : Nat → Nat} (hf : ∀ x, x < 256 → f x < 256) : ∀ (n x : Nat), sumB f n x < 256 ^ n
  | 0, _ => Nat.one_pos
  | n + 1, x => by
    have := sumB_lt hf n (x / 256)
    have h := hf (x % 256) (Nat.mod_lt _ (by omega))
    simp only [sumB]
    rw [Nat.pow_succ]; omega
theorem wrap_u64_mod (n : Int) : IntKind.u64.wrap n = n % 18446744073709551616 := by
  simp [IntKind.wrap, IntKind.bits, IntKind.signed]
def oc1 (X : Int) : Int := IntKind.u64.wrap (Vc.bits .and .u64 (shiftV .shr .u64 X (1 : Int).toNat) 6148914691236517205 + Vc.bits .and .u64 X 6148914691236517205)
def oc2 (X : Int) : Int := IntKind.u64.wrap (Vc.bits .and .u64 (shiftV .shr .u64 X (2 : Int).toNat) 3689348814741910323 + Vc.bits .and .u64 X 3689348814741910323)
def oc3 (X : Int) : Int := Vc.bits .and .u64 (IntKind.u64.wrap (shiftV .shr .u64 X (4 : Int).toNat + X)) 1085102592571150095
def oc4 (X : Int) : Int := IntKind.u64.wrap (X + shiftV .shr .u64 X (8 : Int).toNat)
def oc5 (X : Int) : Int := IntKind.u64.wrap (X + shiftV .shr .u64 X (16 : Int).toNat)
def oc6 (X : Int) : Int := IntKind.u64.wrap (X + shiftV .shr .u64 X (32 : Int).toNat)
theorem oc_eq (x : Nat) (hx : x < 2 ^ 64) : Vc.bits .and .i64 (IntKind.i64.wrap (oc6 (oc5 (oc4 (oc3 (oc2 (oc1 (x : Int)))))))) 127 = ((cnt x.testBit 64 : Nat) : Int) := by
  have hA := sumA 8 x
  have hAl := sumB_lt okA 8 x
  rw [← hA] at hAl
  have hAl : (x / 2 &&& rep 85 8) + (x &&& rep 85 8) < 2 ^ 64 := hAl
  have m0 : (6148914691236517205 : Int) = ((rep 85 8 : Nat) : Int) := rfl
  have m1 : (3689348814741910323 : Int) = ((rep 51 8 : Nat) : Int) := rfl
  have m2 : (1085102592571150095 : Int) = ((rep 15 8 : Nat) : Int) := rfl
  have s1 : ∀ y : Nat, shiftV .shr .u64 (y : Int) (1 : Int).toNat = ((y / 2 : Nat) : Int) := fun y => by rw [shr_u64 y (by decide), Nat.shiftRight_eq_div_pow]; rfl
  have s2 : ∀ y : Nat, shiftV .shr .u64 (y : Int) (2 : Int).toNat = ((y / 4 : Nat) : Int) := fun y => by rw [shr_u64 y (by decide), Nat.shiftRight_eq_div_pow]; rfl
  have s4 : ∀ y : Nat, shiftV .shr .u64 (y : Int) (4 : Int).toNat = ((y / 16 : Nat) : Int) := fun y => by rw [shr_u64 y (by decide), Nat.shiftRight_eq_div_pow]; rfl
  have s8 : ∀ y : Nat, shiftV .shr .u64 (y : Int) (8 : Int).toNat = ((y / 256 : Nat) : Int) := fun y => by rw [shr_u64 y (by decide), Nat.shiftRight_eq_div_pow]; rfl
  have s16 : ∀ y : Nat, shiftV .shr .u64 (y : Int) (16 : Int).toNat = ((y / 65536 : Nat) : Int) := fun y => by rw [shr_u64 y (by decide), Nat.shiftRight_eq_div_pow]; rfl
  have s32 : ∀ y : Nat, shiftV .shr .u64 (y : Int) (32 : Int).toNat = ((y / 4294967296 : Nat) : Int) := fun y => by rw [shr_u64 y (by decide), Nat.shiftRight_eq_div_pow]; rfl
  have e1 : oc1 (x : Int) = (((x / 2 &&& rep 85 8) + (x &&& rep 85 8) : Nat) : Int) := by
    unfold oc1
    rw [s1, m0, and_u64 (by omega) (by decide), and_u64 hx (by decide), ← Int.natCast_add, u64_nat hAl]
  have hC := pop_bytes x
  rw [show (6148914691236517205 : Nat) = rep 85 8 from rfl, show (3689348814741910323 : Nat) = rep 51 8 from rfl] at hC
  have hCl := sumB_lt (fun y hy => (okC y hy).1) 8 x
  rw [← hC] at hCl
  have e2 : oc2 (oc1 (x : Int)) = (((((x / 2 &&& rep 85 8) + (x &&& rep 85 8)) / 4 &&& rep 51 8) + (((x / 2 &&& rep 85 8) + (x &&& rep 85 8)) &&& rep 51 8) : Nat) : Int) := by
    rw [e1]
    unfold oc2
    rw [s2, m1, and_u64 (by omega) (by decide), and_u64 hAl (by decide), ← Int.natCast_add, u64_nat hCl]
  rw [hC] at e2 hCl
  have hD := pop_bytes' x
  rw [show (1085102592571150095 : Nat) = rep 15 8 from rfl] at hD
  generalize sumB (fun y => (((y / 2 &&& 85) + (y &&& 85)) / 4 &&& 51) + (((y / 2 &&& 85) + (y &&& 85)) &&& 51)) 8 x = z at *
  have e3 : oc3 (oc2 (oc1 (x : Int))) = ((sumB (fun y => cnt y.testBit 8) 8 x : Nat) : Int) := by
    rw [e2]
    unfold oc3
    have hz : z / 16 + z < 2 ^ 64 ∨ ¬ z / 16 + z < 2 ^ 64 := by omega
    rw [s4, m2, ← Int.natCast_add, wrap_u64_mod]
    rw [show (((z / 16 + z : Nat) : Int) % 18446744073709551616) = (((z / 16 + z) % 2 ^ 64 : Nat) : Int) by omega]
    rw [and_u64 (Nat.mod_lt _ (by decide)) (by decide), ← hD]
    congr 1
    apply Nat.eq_of_testBit_eq
    intro j
    rw [Nat.testBit_and, Nat.testBit_and, Nat.testBit_mod_two_pow]
    by_cases hj : j < 64
    · simp [hj]
    · have : (rep 15 8).testBit j = false := bit_hi (by decide) (by omega)
      rw [this]; simp
  rw [e3]
  obtain ⟨h1, h2, h3, h4⟩ := pop_sum x _ rfl
  generalize sumB (fun y => cnt y.testBit 8) 8 x = y at *
  have e4 : oc4 (y : Int) = ((y + y / 256 : Nat) : Int) := by unfold oc4; rw [s8, ← Int.natCast_add, u64_nat h1]
  rw [e4]
  have e5 : oc5 ((y + y / 256 : Nat) : Int) = ((y + y / 256 + (y + y / 256) / 65536 : Nat) : Int) := by unfold oc5; rw [s16, ← Int.natCast_add, u64_nat h2]
  rw [e5]
  have e6 : oc6 ((y + y / 256 + (y + y / 256) / 65536 : Nat) : Int) = ((y + y / 256 + (y + y / 256) / 65536 + (y + y / 256 + (y + y / 256) / 65536) / 4294967296 : Nat) : Int) := by unfold oc6; rw [s32, ← Int.natCast_add, u64_nat h3]
  rw [e6, ← h4]
  generalize y + y / 256 + (y + y / 256) / 65536 + (y + y / 256 + (y + y / 256) / 65536) / 4294967296 = q at *
  unfold Vc.bits
  have b1 : BitVec.ofInt IntKind.i64.bits (IntKind.i64.wrap (q : Int)) = BitVec.ofNat 64 q := by
    apply BitVec.eq_of_toNat_eq
    refine Eq.trans ?_ (show q % 2 ^ 64 = (BitVec.ofNat 64 q).toNat from (BitVec.toNat_ofNat _ _).symm)
    rw [BitVec.toNat_ofInt]
    show (IntKind.i64.wrap (q : Int) % ((2 ^ 64 : Nat) : Int)).toNat = q % 2 ^ 64
    simp only [IntKind.wrap, IntKind.bits, IntKind.signed]
    simp
    split <;> omega
  show IntKind.i64.wrap ((BitVec.ofInt IntKind.i64.bits (IntKind.i64.wrap (q : Int)) &&& BitVec.ofInt IntKind.i64.bits 127).toNat : Int) = _
  rw [b1]
  have b2 : (BitVec.ofNat 64 q &&& BitVec.ofInt 64 127).toNat = q % 128 := by
    rw [BitVec.toNat_and, BitVec.toNat_ofNat, Nat.mod_eq_of_lt h3]
    exact Nat.and_two_pow_sub_one_eq_mod q 7
  show IntKind.i64.wrap ((BitVec.ofNat 64 q &&& BitVec.ofInt 64 127).toNat : Int) = _
  rw [b2, wrap_i64 (by omega) (by omega)]
theorem ones_spec (X : Int) (x : Nat) (w : World) (e : X = (x : Int)) (hx : x < 2 ^ 64) : CallC Pr f_math_bits_OnesCount64 [.int .u64 X] w (fun v w' => v = .int .i64 ((cnt x.testBit 64 : Nat) : Int) ∧ Fr No w w') := by
  refine call_sound T_ok fun_math_bits_OnesCount64 rfl (by kernel_rfl) rfl (Kp ?_)
  refine Sd_intro (by omega) ?_
  refine Sd_intro (by omega) ?_
  refine Sd_intro (by omega) ?_
  refine Sd_intro (by omega) ?_
  refine Sd_intro (by omega) ?_
  refine Sd_intro (by omega) ?_
  refine ⟨?_, Fr.refl _ _⟩
  show Value.int .i64 (Vc.bits .and .i64 (IntKind.i64.wrap (oc6 (oc5 (oc4 (oc3 (oc2 (oc1 X))))))) 127) = _
  rw [e, oc_eq x hx]
/-- Where the lowest bit stands. -/
theorem ctz_low {x : Nat} (h0 : x ≠ 0) (hx : x < 2 ^ 64) : Lib.ctz 64 x < 64 ∧ x.testBit (Lib.ctz 64 x) = true ∧ ∀ j, j < Lib.ctz 64 x → x.testBit j = false := by
  have hc : Lib.ctz 64 x = Lib.ctzFrom 64 x := by unfold Lib.ctz; rw [if_neg h0]
  obtain ⟨m, hm, hl⟩ := Lib.ctzFrom_spec 64 x (by omega) hx
  rw [hc]
  generalize Lib.ctzFrom 64 x = k at *
  subst hm
  refine ⟨hl, ?_, fun j hj => ?_⟩
  · rw [Nat.testBit_two_pow_mul]
    have : (2 * m + 1).testBit 0 = true := by rw [Nat.testBit_zero]; simp
    simp [this]
  · rw [Nat.testBit_two_pow_mul]
    simp; omega
theorem tz_key (X : Int) (x : Nat) (e : X = (x : Int)) (h0 : x ≠ 0) (hx : x < 2 ^ 64) :
    shiftV .shr .u64 (IntKind.u64.wrap (Vc.bits .and .u64 X (IntKind.u64.wrap (0 - X)) * 285870213051353865)) (58 : Int).toNat = ((2 ^ Lib.ctz 64 x * 285870213051353865 % 18446744073709551616 / 288230376151711744 : Nat) : Int) := by
  subst e
  obtain ⟨hlow, _⟩ := Lib.lowest_bit 64 x h0 hx
  have e1 : IntKind.u64.wrap (0 - (x : Int)) = ((2 ^ 64 - x : Nat) : Int) := by rw [wrap_u64_mod]; omega
  rw [e1, and_u64 hx (by omega), hlow, wrap_u64_mod]
  generalize 2 ^ Lib.ctz 64 x = a
  rw [show ((a : Nat) : Int) * 285870213051353865 % 18446744073709551616 = ((a * 285870213051353865 % 18446744073709551616 : Nat) : Int) by omega, shr_u64 _ (by decide), Nat.shiftRight_eq_div_pow]
  rfl
theorem shl6 {k : Int} (h0 : -9223372036854775808 ≤ k * 64) (h1 : k * 64 ≤ 9223372036854775807) : shiftV .shl .i64 k (6 : Int).toNat = k * 64 := by
  rw [shl_i64 _ (by decide), wrap_i64]
  · rfl
  · exact h0
  · exact h1
theorem ones_bit (j : Nat) : (18446744073709551615 : Nat).testBit j = decide (j < 64) := Nat.testBit_two_pow_sub_one 64 j
theorem mask_spec (k frm to : Int) (w : World) (hk : 0 ≤ k) (hk1 : k ≤ 4194304) (hf0 : 0 ≤ frm) (hf1 : frm < 64 * k + 64) (ht0 : 64 * k < to) (ht1 : to ≤ 4194304) :
    CallC Pr f_bits_mask [.int .i64 k, .int .i64 frm, .int .i64 to] w (fun v w' => (∃ m : Nat, v = .int .u64 (m : Int) ∧ m < 2 ^ 64 ∧ ∀ j : Nat, j < 64 → m.testBit j = decide (frm ≤ 64 * k + j ∧ 64 * k + j < to)) ∧ Fr No w w') := by
  have es : shiftV .shl .i64 k (6 : Int).toNat = k * 64 := shl6 (by omega) (by omega)
  have eo : IntKind.i64.wrap (IntKind.i64.wrap (IntKind.i64.wrap (shiftV .shl .i64 k (6 : Int).toNat + 63) + 1) - to) = k * 64 + 64 - to := by
    rw [es, wrap_i64 (n := k * 64 + 63) (by omega) (by omega), wrap_i64 (n := k * 64 + 63 + 1) (by omega) (by omega), wrap_i64 (by omega) (by omega)]; omega
  have ed : frm > k * 64 → IntKind.u64.wrap (IntKind.i64.wrap (frm - shiftV .shl .i64 k (6 : Int).toNat)) = (((frm - k * 64).toNat : Nat) : Int) := fun h => by
    rw [es, wrap_i64 (by omega) (by omega), wrap_u64 (by omega) (by omega)]; omega
  have eu : k * 64 + 64 - to > 0 → IntKind.u64.wrap (IntKind.i64.wrap (IntKind.i64.wrap (IntKind.i64.wrap (shiftV .shl .i64 k (6 : Int).toNat + 63) + 1) - to)) = (((k * 64 + 64 - to).toNat : Nat) : Int) := fun h => by
    rw [eo, wrap_u64 (by omega) (by omega)]; omega
  have b0 : (18446744073709551615 : Int) = ((18446744073709551615 : Nat) : Int) := rfl
  refine call_sound T_ok fun_bits_mask rfl (by kernel_rfl) rfl (Kp ?_)
  refine Sd_intro (by omega) ?_
  refine Br_dec (fun g => ?_) (fun g => ?_)
  · have g : frm > shiftV .shl .i64 k (6 : Int).toNat := g
    rw [es] at g
    have hd := ed g
    refine Sd_intro (show 0 ≤ IntKind.u64.wrap (IntKind.i64.wrap (frm - shiftV .shl .i64 k (6 : Int).toNat)) by rw [hd]; omega) ?_
    refine Br_dec (fun g1 => ?_) (fun g1 => ?_)
    · have g1 : IntKind.i64.wrap (IntKind.i64.wrap (IntKind.i64.wrap (shiftV .shl .i64 k (6 : Int).toNat + 63) + 1) - to) > 0 := g1
      rw [eo] at g1
      have hu := eu g1
      refine Sd_intro (show 0 ≤ IntKind.u64.wrap (IntKind.i64.wrap (IntKind.i64.wrap (IntKind.i64.wrap (shiftV .shl .i64 k (6 : Int).toNat + 63) + 1) - to)) by rw [hu]; omega) ?_
      refine Sd_intro (show 0 ≤ IntKind.u64.wrap (IntKind.i64.wrap (IntKind.i64.wrap (IntKind.i64.wrap (shiftV .shl .i64 k (6 : Int).toNat + 63) + 1) - to)) by rw [hu]; omega) ?_
      refine Br_dt (show frm > shiftV .shl .i64 k (6 : Int).toNat by rw [es]; exact g) ?_
      refine Sd_intro (show 0 ≤ IntKind.u64.wrap (IntKind.i64.wrap (frm - shiftV .shl .i64 k (6 : Int).toNat)) by rw [hd]; omega) ?_
      refine Sd_intro (show 0 ≤ IntKind.u64.wrap (IntKind.i64.wrap (frm - shiftV .shl .i64 k (6 : Int).toNat)) by rw [hd]; omega) ?_
      refine ⟨⟨((18446744073709551615 <<< (frm - k * 64).toNat % 2 ^ 64) <<< (k * 64 + 64 - to).toNat % 2 ^ 64) >>> (k * 64 + 64 - to).toNat >>> (frm - k * 64).toNat <<< (frm - k * 64).toNat % 2 ^ 64, ?_, shlN_lt _ _, fun j hj => ?_⟩, Fr.refl _ _⟩
      · show Value.int .u64 (shiftV .shl .u64 (shiftV .shr .u64 (shiftV .shr .u64 (shiftV .shl .u64 (shiftV .shl .u64 18446744073709551615 (IntKind.u64.wrap (IntKind.i64.wrap (frm - shiftV .shl .i64 k (6 : Int).toNat))).toNat)
          (IntKind.u64.wrap (IntKind.i64.wrap (IntKind.i64.wrap (IntKind.i64.wrap (shiftV .shl .i64 k (6 : Int).toNat + 63) + 1) - to))).toNat) (IntKind.u64.wrap (IntKind.i64.wrap (IntKind.i64.wrap (IntKind.i64.wrap (shiftV .shl .i64 k (6 : Int).toNat + 63) + 1) - to))).toNat)
          (IntKind.u64.wrap (IntKind.i64.wrap (frm - shiftV .shl .i64 k (6 : Int).toNat))).toNat) (IntKind.u64.wrap (IntKind.i64.wrap (frm - shiftV .shl .i64 k (6 : Int).toNat))).toNat) = _
        rw [hd, hu, Int.toNat_natCast, Int.toNat_natCast, b0, shl_u64 _ (by omega), shl_u64 _ (by omega), shr_u64 _ (by omega), shr_u64 _ (by omega), shl_u64 _ (by omega)]
      · rw [shlN_bit, shrN_bit, shrN_bit, shlN_bit, shlN_bit, ones_bit, Bool.eq_iff_iff]
        simp only [Bool.and_eq_true, decide_eq_true_eq]
        exact ⟨fun h => by omega, fun h => by omega⟩
    · have g1 : ¬ IntKind.i64.wrap (IntKind.i64.wrap (IntKind.i64.wrap (shiftV .shl .i64 k (6 : Int).toNat + 63) + 1) - to) > 0 := g1
      rw [eo] at g1
      refine ⟨⟨18446744073709551615 <<< (frm - k * 64).toNat % 2 ^ 64, ?_, shlN_lt _ _, fun j hj => ?_⟩, Fr.refl _ _⟩
      · show Value.int .u64 (shiftV .shl .u64 18446744073709551615 (IntKind.u64.wrap (IntKind.i64.wrap (frm - shiftV .shl .i64 k (6 : Int).toNat))).toNat) = _
        rw [hd, Int.toNat_natCast, b0, shl_u64 _ (by omega)]
      · rw [shlN_bit, ones_bit, Bool.eq_iff_iff]
        simp only [Bool.and_eq_true, decide_eq_true_eq]
        exact ⟨fun h => by omega, fun h => by omega⟩
  · have g : ¬ frm > shiftV .shl .i64 k (6 : Int).toNat := g
    rw [es] at g
    refine Br_dec (fun g1 => ?_) (fun g1 => ?_)
    · have g1 : IntKind.i64.wrap (IntKind.i64.wrap (IntKind.i64.wrap (shiftV .shl .i64 k (6 : Int).toNat + 63) + 1) - to) > 0 := g1
      rw [eo] at g1
      have hu := eu g1
      refine Sd_intro (show 0 ≤ IntKind.u64.wrap (IntKind.i64.wrap (IntKind.i64.wrap (IntKind.i64.wrap (shiftV .shl .i64 k (6 : Int).toNat + 63) + 1) - to)) by rw [hu]; omega) ?_
      refine Sd_intro (show 0 ≤ IntKind.u64.wrap (IntKind.i64.wrap (IntKind.i64.wrap (IntKind.i64.wrap (shiftV .shl .i64 k (6 : Int).toNat + 63) + 1) - to)) by rw [hu]; omega) ?_
      refine Br_df (show ¬ frm > shiftV .shl .i64 k (6 : Int).toNat by rw [es]; exact g) ?_
      refine ⟨⟨(18446744073709551615 <<< (k * 64 + 64 - to).toNat % 2 ^ 64) >>> (k * 64 + 64 - to).toNat, ?_, shrN_lt _ (shlN_lt _ _), fun j hj => ?_⟩, Fr.refl _ _⟩
      · show Value.int .u64 (shiftV .shr .u64 (shiftV .shl .u64 18446744073709551615
          (IntKind.u64.wrap (IntKind.i64.wrap (IntKind.i64.wrap (IntKind.i64.wrap (shiftV .shl .i64 k (6 : Int).toNat + 63) + 1) - to))).toNat) (IntKind.u64.wrap (IntKind.i64.wrap (IntKind.i64.wrap (IntKind.i64.wrap (shiftV .shl .i64 k (6 : Int).toNat + 63) + 1) - to))).toNat) = _
        rw [hu, Int.toNat_natCast, b0, shl_u64 _ (by omega), shr_u64 _ (by omega)]
      · rw [shrN_bit, shlN_bit, ones_bit, Bool.eq_iff_iff]
        simp only [Bool.and_eq_true, decide_eq_true_eq]
        exact ⟨fun h => by omega, fun h => by omega⟩
    · have g1 : ¬ IntKind.i64.wrap (IntKind.i64.wrap (IntKind.i64.wrap (shiftV .shl .i64 k (6 : Int).toNat + 63) + 1) - to) > 0 := g1
      rw [eo] at g1
      refine ⟨⟨18446744073709551615, rfl, by decide, fun j hj => ?_⟩, Fr.refl _ _⟩
      rw [ones_bit]
      exact decide_eq_decide.2 ⟨fun h => by omega, fun h => by omega⟩
end Go.Proofs.YtdhbpklmkibmbaaGreat
/- Layer 1 (bits): Next, Count, Fill, List. -/
namespace Go.Proofs.YtdhbpklmkibmbaaGreat
open Go.Vc

/-- The least number of a set from one on; -1: there is none. -/
def NextIs (S : Nat → Bool) (i : Nat) (v : Int) : Prop :=
  (v = -1 ∧ ∀ p, i ≤ p → S p = false) ∨ ∃ p : Nat, v = p ∧ i ≤ p ∧ S p = true ∧ ∀ q, i ≤ q → q < p → S q = false
theorem NextIs.uniq {S : Nat → Bool} {i : Nat} {v v' : Int} (h : NextIs S i v) (h' : NextIs S i v') : v = v' := by
  rcases h with ⟨rfl, h⟩ | ⟨p, rfl, h1, h2, h3⟩ <;> rcases h' with ⟨rfl, g⟩ | ⟨q, rfl, g1, g2, g3⟩
  · rfl
  · rw [h q g1] at g2; cases g2
  · rw [g p h1] at h2; cases h2
  · have : p = q := by
      rcases Nat.lt_trichotomy p q with h | h | h
      · rw [g3 p h1 h] at h2; cases h2
      · exact h
      · rw [h3 q g1 h] at g2; cases g2
    rw [this]
theorem NextIs.congr {S S' : Nat → Bool} {i : Nat} {v : Int} (h : NextIs S i v) (e : ∀ p, S p = S' p) : NextIs S' i v := by
  have : S = S' := funext e
  exact this ▸ h
theorem bit_shift {x d j : Nat} (hx : x < 2 ^ 64) : ((x >>> d) <<< d % 2 ^ 64).testBit j = (decide (d ≤ j) && x.testBit j) := by
  rw [shlN_bit, shrN_bit]
  by_cases h : d ≤ j
  · rw [show d + (j - d) = j by omega]
    by_cases hj : j < 64
    · simp [hj]
    · have := bit_hi hx (show 64 ≤ j by omega)
      simp [this]
  · simp [h]
theorem no_bit {x : Nat} (hx : x < 2 ^ 64) (h : ∀ j, j < 64 → x.testBit j = false) : x = 0 := by
  apply Nat.eq_of_testBit_eq
  intro j
  rw [Nat.zero_testBit]
  by_cases hj : j < 64
  · exact h j hj
  · exact bit_hi hx (by omega)
end Go.Proofs.YtdhbpklmkibmbaaGreat
/- Layer 1 (bits): Count, Fill, List. -/
namespace Go.Proofs.YtdhbpklmkibmbaaGreat
open Go.Vc

/-- Those of a set from one number on, below another. -/
def within (S : Nat → Bool) (a b : Int) : Nat → Bool := fun p => decide (a ≤ (p : Int) ∧ (p : Int) < b) && S p
theorem Count_nil (a b : Int) (w : World) : CallC Pr f_bits_Set_Count [.pointer none, .int .i64 a, .int .i64 b] w (fun v w' => v = .int .i64 0 ∧ Fr No w w') := by
  refine call_sound T_ok fun_bits_Set_Count rfl (by kernel_rfl) rfl (Kp ?_)
  exact ⟨rfl, Fr.refl _ _⟩
theorem Fill_nil (a b : Int) (on : Bool) (w : World) : CallC Pr f_bits_Set_Fill [.pointer none, .int .i64 a, .int .i64 b, .bool on] w (fun v w' => v = .int .i64 1 ∧ Fr No w w') := by
  refine call_sound T_ok fun_bits_Set_Fill rfl (by kernel_rfl) rfl (Kp ?_)
  exact ⟨rfl, Fr.refl _ _⟩
theorem Count_spec {b r : Nat} {n : Int} {S : Nat → Bool} (frm to : Int) (w : World) (h : IsBits w b r n S) (hf : frm ≤ 9223372036854775807) :
    CallC Pr f_bits_Set_Count [.pointer (some ⟨b, 0, none⟩), .int .i64 frm, .int .i64 to] w (fun v w' => v = .int .i64 ((cnt (within S frm to) n.toNat : Nat) : Int) ∧ Fr No w w') := by
  obtain ⟨ws, h, he⟩ := h
  have hn := h.n1
  have hn0 := h.n0
  have hlen := h.len
  refine call_sound T_ok fun_bits_Set_Count rfl (by kernel_rfl) rfl (Kp ?_)
  refine AnyC_lex T_ok mixed (by kernel_rfl) (by kernel_rfl) (Kp ?_)
  refine LdS_blk h.tab rfl ?_
  generalize hA : max frm 0 = A
  generalize hB : min to n = B
  have eA : imax frm 0 = A := by rw [imax_eq, hA]
  have eB : imin to n = B := by rw [imin_eq, hB]
  have hF : cnt (within S frm to) n.toNat = cnt (within S A B) n.toNat := cnt_congr fun j hj => by
    unfold within
    congr 1
    exact decide_eq_decide.2 ⟨fun h => by omega, fun h => by omega⟩
  rw [hF]
  refine Sd_intro (by omega) ?_
  have ek : shiftV .shr .i64 (imax frm 0) (6 : Int).toNat = A / 64 := by rw [shr6, eA]
  refine LoopC_intro (α := Int) (fun k => [(0, .pointer (some ⟨b, 0, none⟩)), (1, .int .i64 A), (2, .int .i64 B), (7, .int .i64 ((cnt (within S A B) (64 * k.toNat) : Nat) : Int)), (8, .int .i64 k)])
    (fun m k w2 => IsBitsW w2 b r n ws ∧ Fr No w w2 ∧ A / 64 ≤ k ∧ (k = A / 64 ∨ 64 * k < B + 64) ∧ m = (ws.length + 1 - k).toNat)
    (ws.length + 1 - A / 64 : Int).toNat (A / 64) ⟨rfl, look_int rfl eA, look_int rfl eB, ?_, look_int rfl ek, trivial⟩
    ⟨h.keep (Fr.drew w) id id, Fr.drew w, Int.le_refl _, .inl rfl, rfl⟩ (fun m k w2 hJ => Kp ?_)
  · refine look_int rfl ?_
    rw [cnt_none]
    · rfl
    · intro j hj
      unfold within
      rw [decide_eq_false (by omega)]; rfl
  · obtain ⟨h2, f2, k0, k1, hm⟩ := hJ
    have k0 : A / 64 ≤ k := k0
    have kA : 0 ≤ k := by omega
    have c0 : cnt (within S A B) (64 * k.toNat) ≤ 64 * k.toNat := cnt_le _ _
    have es : shiftV .shl .i64 k (6 : Int).toNat = k * 64 := shl6 (by omega) (by omega)
    refine Sd_intro (by omega) ?_
    have stop : ∀ c : Prop, (¬ (k * 64 < B ∧ A < B)) → cnt (within S A B) (64 * k.toNat) = cnt (within S A B) n.toNat := by
      intro _ hc
      by_cases hAB : A < B
      · have hkB : ¬ k * 64 < B := fun e => hc ⟨e, hAB⟩
        have z : ∀ j : Nat, B ≤ j → within S A B j = false := fun j hj => by
          unfold within; rw [decide_eq_false (by omega)]; rfl
        rcases Nat.le_total n.toNat (64 * k.toNat) with hle | hle
        · exact cnt_more hle (fun j h1 h2 => z j (by omega))
        · exact (cnt_more hle (fun j h1 h2 => z j (by omega))).symm
      · have z : ∀ j : Nat, within S A B j = false := fun j => by
          unfold within; rw [decide_eq_false (by omega)]; rfl
        rw [cnt_none (fun j _ => z j), cnt_none (fun j _ => z j)]
    refine Br_dec (fun g0 => ?_) (fun g0 => ?_)
    · have g0 : shiftV .shl .i64 k (6 : Int).toNat < B := g0
      rw [es] at g0
      refine Br_dec (fun g1 => ?_) (fun g1 => ?_)
      · have g1 : A < B := g1
        have hl : k.toNat < ws.length := by omega
        have hx := List.getElem?_eq_getElem hl
        generalize ws[k.toNat] = x at hx
        have hx2 := h.lt _ _ hx
        refine AnyC_ord [0,1,2,3,4,5,6,7,8,9,10,1011,12,1013,14,15] T_ok mixed (by kernel_rfl) (by kernel_rfl) (Kp ?_)
        refine LdS_blk h2.tab rfl ?_
        refine Sd_intro (show 0 ≤ k ∧ k < (ws.length : Int) by omega) ?_
        refine LdS_idx (v := .int .u64 (x : Int)) h2.row (by
          show (u64s ws)[0 + k.toNat * 1]? = _
          rw [Nat.zero_add, Nat.mul_one]
          exact u64s_get? hx) ?_
        refine ⟨?_, trivial⟩
        refine CallC_intro (mask_spec k A B w2.drew kA (by omega) (by omega) (by omega) (by omega) (by omega)) (fun v w3 ⟨⟨y, hv, hy, hb⟩, f3⟩ => ?_)
        subst hv
        have f23 := (Fr.drew w2).no f3
        refine Sd_intro f23.old ?_
        refine ⟨?_, trivial⟩
        refine CallC_intro (ones_spec (Vc.bits .and .u64 (x : Int) (y : Int)) (x &&& y) w3 (and_u64 hx2 hy) (Nat.and_lt_two_pow _ hy)) (fun v w4 ⟨hv, f4⟩ => ?_)
        subst hv
        have f24 := f23.no f4
        refine Sd_intro f24.old ?_
        have hc : cnt (within S A B) (64 * (k + 1).toNat) = cnt (within S A B) (64 * k.toNat) + cnt (x &&& y).testBit 64 := by
          rw [show 64 * (k + 1).toNat = 64 * k.toNat + 64 by omega, cnt_add]
          congr 1
          refine cnt_congr fun j hj => ?_
          rw [Nat.testBit_and, hb j hj, ← mem_word hx j hj, he]
          unfold within
          rw [Bool.and_comm]
          congr 1
          exact decide_eq_decide.2 ⟨fun h => by omega, fun h => by omega⟩
        have c1 : cnt (x &&& y).testBit 64 ≤ 64 := cnt_le _ _
        refine ⟨(ws.length + 1 - (k + 1)).toNat, _, by omega, ?_, k + 1, rfl, h2.keep f24 id id, f2.no f24, (show A / 64 ≤ k + 1 by omega), .inr (show 64 * (k + 1) < B + 64 by omega), rfl⟩
        refine ⟨rfl, rfl, rfl, look_int rfl ?_, look_int rfl (wrap_i64 (by omega) (by omega)), trivial⟩
        rw [hc, wrap_i64 (by omega) (by omega)]; omega
      · have g1 : ¬ A < B := g1
        refine ⟨?_, f2⟩
        show Value.int .i64 ((cnt (within S A B) (64 * k.toNat) : Nat) : Int) = _
        rw [stop True (fun e => g1 e.2)]
    · have g0 : ¬ shiftV .shl .i64 k (6 : Int).toNat < B := g0
      rw [es] at g0
      refine ⟨?_, f2⟩
      show Value.int .i64 ((cnt (within S A B) (64 * k.toNat) : Nat) : Int) = _
      rw [stop True (fun e => g0 e.1)]
def bfill (S : Nat → Bool) (a b : Int) (on : Bool) : Nat → Bool := fun p => if a ≤ (p : Int) ∧ (p : Int) < b then on else S p
theorem Fill_out {b r : Nat} {n : Int} {S : Nat → Bool} (frm to : Int) (on : Bool) (w : World) (h : IsBits w b r n S) (ho : frm < 0 ∨ to < frm ∨ n < to) :
    CallC Pr f_bits_Set_Fill [.pointer (some ⟨b, 0, none⟩), .int .i64 frm, .int .i64 to, .bool on] w (fun v w' => v = .int .i64 2 ∧ Fr No w w') := by
  obtain ⟨ws, h, he⟩ := h
  refine call_sound T_ok fun_bits_Set_Fill rfl (by kernel_rfl) rfl (Kp ?_)
  refine Br_dec (fun g => ?_) (fun g => ?_)
  · exact ⟨rfl, Fr.refl _ _⟩
  · have g : ¬ frm < 0 := g
    refine Br_dec (fun g1 => ?_) (fun g1 => ?_)
    · exact ⟨rfl, Fr.refl _ _⟩
    · have g1 : ¬ to < frm := g1
      refine LdC_blk h.tab rfl ?_
      refine Br_dt (show to > n by omega) ?_
      exact ⟨rfl, Fr.refl _ _⟩
theorem Fill_spec {b r : Nat} {n : Int} {S : Nat → Bool} (frm to : Int) (on : Bool) (w : World) (h : IsBits w b r n S) (h0 : 0 ≤ frm) (h1 : frm ≤ to) (h2 : to ≤ n) :
    CallC Pr f_bits_Set_Fill [.pointer (some ⟨b, 0, none⟩), .int .i64 frm, .int .i64 to, .bool on] w (fun v w' => v = .int .i64 0 ∧ IsBits w' b r n (bfill S frm to on) ∧ Fr (· = r) w w') := by
  obtain ⟨ws0, h, he⟩ := h
  have hn := h.n1
  have hlen := h.len
  refine call_sound T_ok fun_bits_Set_Fill rfl (by kernel_rfl) rfl (Kp ?_)
  refine Br_df (show ¬ frm < 0 by omega) ?_
  refine Br_df (show ¬ to < frm by omega) ?_
  refine LdC_blk h.tab rfl ?_
  refine Br_df (show ¬ to > n by omega) ?_
  refine Sd_intro (by omega) ?_
  refine LoopC_intro (α := Int) (fun k => [(0, .pointer (some ⟨b, 0, none⟩)), (1, .int .i64 frm), (2, .int .i64 to), (3, .bool on), (9, .int .i64 k)])
    (fun m k w2 => ∃ ws, IsBitsW w2 b r n ws ∧ ws.length = ws0.length ∧ Fr (· = r) w w2 ∧ frm / 64 ≤ k ∧ (k = frm / 64 ∨ 64 * k < to + 64) ∧ (∀ p : Nat, mem ws p = if (p : Int) < 64 * k then bfill S frm to on p else S p) ∧ m = (ws0.length + 1 - k).toNat)
    (ws0.length + 1 - frm / 64 : Int).toNat (frm / 64) ⟨rfl, rfl, rfl, rfl, look_int rfl shr6, trivial⟩
    ⟨ws0, h, rfl, Fr.refl _ _, Int.le_refl _, .inl rfl, fun p => ?_, rfl⟩ (fun m k w2 hJ => Kp ?_)
  · rw [he]
    split
    · rename_i g
      unfold bfill
      rw [if_neg (by omega)]
    · rfl
  · obtain ⟨ws, h3, hl, f2, k0, k1, hS, hm⟩ := hJ
    have k0 : frm / 64 ≤ k := k0
    have kA : 0 ≤ k := by omega
    have es : shiftV .shl .i64 k (6 : Int).toNat = k * 64 := shl6 (by omega) (by omega)
    refine Sd_intro (by omega) ?_
    have stop : (¬ (k * 64 < to ∧ frm < to)) → IsBits w2 b r n (bfill S frm to on) := fun hc => ⟨ws, h3, fun p => by
      rw [hS]
      split
      · rfl
      · rename_i g
        unfold bfill
        rw [if_neg (by omega)]⟩
    refine Br_dec (fun g0 => ?_) (fun g0 => ?_)
    · have g0 : shiftV .shl .i64 k (6 : Int).toNat < to := g0
      rw [es] at g0
      refine Br_dec (fun g1 => ?_) (fun g1 => ?_)
      · have g1 : frm < to := g1
        have hlt : k.toNat < ws.length := by omega
        have hx := List.getElem?_eq_getElem hlt
        generalize ws[k.toNat] = x at hx
        have hx2 := h3.lt _ _ hx
        have hmx : ∀ j, j < 64 → x.testBit j = S (64 * k.toNat + j) := fun j hj => by rw [← mem_word hx j hj, hS, if_neg (by omega)]
        have step : ∀ (z : Nat) (w3 : World), z < 2 ^ 64 → (∀ j, j < 64 → z.testBit j = bfill S frm to on (64 * k.toNat + j)) → Blk w3 r t_uint64 (u64s (ws.set k.toNat z)) → Fr (· = r) w2 w3 →
            ∃ ws', IsBitsW w3 b r n ws' ∧ ws'.length = ws0.length ∧ (∀ p : Nat, mem ws' p = if (p : Int) < 64 * (k + 1) then bfill S frm to on p else S p) := by
          intro z w3 hz hzb hblk hfr
          refine ⟨_, h3.set k.toNat z hz ?_ hblk hfr, by rw [List.length_set]; exact hl, fun p => ?_⟩
          · intro j hj hb
            rw [hzb _ (Nat.mod_lt _ (by omega)), show 64 * k.toNat + j % 64 = j by omega] at hb
            unfold bfill at hb
            split at hb
            · omega
            · exact h.hi j ((he j).trans hb)
          · rw [mem_set hlt]
            split
            · rename_i g
              rw [hzb _ (Nat.mod_lt _ (by omega)), show 64 * k.toNat + p % 64 = p by omega, if_pos (by omega)]
            · rename_i g
              rw [hS]
              by_cases hp : (p : Int) < 64 * k
              · rw [if_pos hp, if_pos (by omega)]
              · rw [if_neg hp, if_neg (by omega)]
        refine Br_intro (fun ho => ?_) (fun ho => ?_)
        · have ho : on = true := ho
          refine AnyC_ord [0,1,2,3,4,5,6,7,8,9,1010,11,12,1013] T_ok mixed (by kernel_rfl) (by kernel_rfl) (Kp ?_)
          refine LdS_blk h3.tab rfl ?_
          refine Sd_intro (show 0 ≤ k ∧ k < (ws.length : Int) by omega) ?_
          refine LdS_idx (v := .int .u64 (x : Int)) h3.row (by
            show (u64s ws)[0 + k.toNat * 1]? = _
            rw [Nat.zero_add, Nat.mul_one]
            exact u64s_get? hx) ?_
          refine ⟨?_, trivial⟩
          refine CallC_intro (mask_spec k frm to w2.drew kA (by omega) (by omega) (by omega) (by omega) (by omega)) (fun v w3 ⟨⟨y, hv, hy, hb⟩, f3⟩ => ?_)
          subst hv
          have f23 := (Fr.drew w2).no f3
          refine Sd_intro f23.old ?_
          refine Sd_intro (show 0 ≤ k ∧ k < (ws.length : Int) by omega) ?_
          refine ⟨?_, trivial⟩
          refine StC_idx (h3.keep f23 id id).row rfl (u := .int .u64 (x : Int)) (by
            show (u64s ws)[0 + k.toNat * 1]? = _
            rw [Nat.zero_add, Nat.mul_one]
            exact u64s_get? hx) (fun w4 h4 f4 _ => ?_)
          have h4 : Blk w4 r t_uint64 ((u64s ws).set (0 + k.toNat * 1) (.int .u64 (Vc.bits .or .u64 (x : Int) (y : Int)))) := h4
          rw [Nat.zero_add, Nat.mul_one, or_u64 hx2 hy, u64s_set] at h4
          have f24 := f23.noL f4
          obtain ⟨ws', h5, hl5, hS5⟩ := step (x ||| y) w4 (Nat.or_lt_two_pow hx2 hy) (fun j hj => by
            rw [Nat.testBit_or, hmx j hj, hb j hj]
            unfold bfill
            by_cases hc : frm ≤ ((64 * k.toNat + j : Nat) : Int) ∧ ((64 * k.toNat + j : Nat) : Int) < to
            · rw [if_pos hc, decide_eq_true (by omega), ho]; simp
            · rw [if_neg hc, decide_eq_false (by omega)]; simp) h4 f24
          refine ⟨(ws0.length + 1 - (k + 1)).toNat, _, by omega, ?_, k + 1, rfl, ws', h5, hl5, f2.same f24, (show frm / 64 ≤ k + 1 by omega), .inr (show 64 * (k + 1) < to + 64 by omega), hS5, rfl⟩
          exact ⟨rfl, rfl, rfl, by rw [ho]; rfl, look_int rfl (wrap_i64 (by omega) (by omega)), trivial⟩
        · have ho : on = false := ho
          refine AnyC_ord [0,1,2,3,4,5,6,7,8,9,1010,11,12,1013] T_ok mixed (by kernel_rfl) (by kernel_rfl) (Kp ?_)
          refine LdS_blk h3.tab rfl ?_
          refine Sd_intro (show 0 ≤ k ∧ k < (ws.length : Int) by omega) ?_
          refine LdS_idx (v := .int .u64 (x : Int)) h3.row (by
            show (u64s ws)[0 + k.toNat * 1]? = _
            rw [Nat.zero_add, Nat.mul_one]
            exact u64s_get? hx) ?_
          refine ⟨?_, trivial⟩
          refine CallC_intro (mask_spec k frm to w2.drew kA (by omega) (by omega) (by omega) (by omega) (by omega)) (fun v w3 ⟨⟨y, hv, hy, hb⟩, f3⟩ => ?_)
          subst hv
          have f23 := (Fr.drew w2).no f3
          refine Sd_intro f23.old ?_
          refine Sd_intro (show 0 ≤ k ∧ k < (ws.length : Int) by omega) ?_
          refine ⟨?_, trivial⟩
          refine StC_idx (h3.keep f23 id id).row rfl (u := .int .u64 (x : Int)) (by
            show (u64s ws)[0 + k.toNat * 1]? = _
            rw [Nat.zero_add, Nat.mul_one]
            exact u64s_get? hx) (fun w4 h4 f4 _ => ?_)
          have h4 : Blk w4 r t_uint64 ((u64s ws).set (0 + k.toNat * 1) (.int .u64 (Vc.bits .andNot .u64 (x : Int) (y : Int)))) := h4
          rw [Nat.zero_add, Nat.mul_one, without_u64, u64s_set] at h4
          have f24 := f23.noL f4
          obtain ⟨ws', h5, hl5, hS5⟩ := step (without x y) w4 (without_lt _ _) (fun j hj => by
            rw [without_bit hx2, hmx j hj, hb j hj]
            unfold bfill
            by_cases hc : frm ≤ ((64 * k.toNat + j : Nat) : Int) ∧ ((64 * k.toNat + j : Nat) : Int) < to
            · rw [if_pos hc, decide_eq_true (by omega), ho]; simp
            · rw [if_neg hc, decide_eq_false (by omega)]; simp) h4 f24
          refine ⟨(ws0.length + 1 - (k + 1)).toNat, _, by omega, ?_, k + 1, rfl, ws', h5, hl5, f2.same f24, (show frm / 64 ≤ k + 1 by omega), .inr (show 64 * (k + 1) < to + 64 by omega), hS5, rfl⟩
          exact ⟨rfl, rfl, rfl, by rw [ho]; rfl, look_int rfl (wrap_i64 (by omega) (by omega)), trivial⟩
      · have g1 : ¬ frm < to := g1
        exact ⟨rfl, stop (fun e => g1 e.2), f2⟩
    · have g0 : ¬ shiftV .shl .i64 k (6 : Int).toNat < to := g0
      rw [es] at g0
      exact ⟨rfl, stop (fun e => g0 e.1), f2⟩
/-- The numbers of a set below m. -/
def elems (S : Nat → Bool) : Nat → List Int
  | 0 => []
  | m + 1 => elems S m ++ (if S m = true then [(m : Int)] else [])
theorem elems_le (S : Nat → Bool) (m : Nat) : (elems S m).length ≤ m := by
  induction m with
  | zero => exact Nat.le_refl _
  | succ m ih => simp only [elems, List.length_append]; split <;> simp <;> omega
theorem elems_more {S : Nat → Bool} {m n : Nat} (hmn : m ≤ n) (h : ∀ j, m ≤ j → j < n → S j = false) : elems S n = elems S m := by
  obtain ⟨d, rfl⟩ : ∃ d, n = m + d := ⟨n - m, by omega⟩
  clear hmn
  induction d with
  | zero => rfl
  | succ d ih =>
    show elems S (m + d + 1) = _
    simp only [elems]
    rw [ih (fun j h1 h2 => h j h1 (by omega)), h (m + d) (by omega) (by omega)]; simp
theorem elems_congr {S S' : Nat → Bool} {m : Nat} (h : ∀ j, j < m → S j = S' j) : elems S m = elems S' m := by
  induction m with
  | zero => rfl
  | succ m ih => simp only [elems]; rw [ih (fun j hj => h j (by omega)), h m (by omega)]
theorem elems_cnt (S : Nat → Bool) (m : Nat) : (elems S m).length = cnt S m := by
  induction m with
  | zero => rfl
  | succ m ih => simp only [elems, cnt, List.length_append, ih]; cases S m <;> simp
end Go.Proofs.YtdhbpklmkibmbaaGreat
