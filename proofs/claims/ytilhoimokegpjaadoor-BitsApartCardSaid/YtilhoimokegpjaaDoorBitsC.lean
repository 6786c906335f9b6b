/- Layer 1 (bits): the library's two functions, mask, Next, Count, Fill, List. -/
import Derived.Test.YtilhoimokegpjaaDoorBitsB
import Derived.Test.YtilhoimokegpjaaDoorVcL
namespace Go.Proofs.YtilhoimokegpjaaDoor
open Go.Vc

theorem sumB_lt {f : Nat → Nat} (hf : ∀ x, x < 256 → f x < 256) : ∀ (n x : Nat), sumB f n x < 256 ^ n
  | 0, _ => Nat.one_pos
  | n + 1, x => by
    have := sumB_lt hf n (x / 256)
    have h := hf (x % 256) (Nat.mod_lt _ (by omega))
    simp only [sumB]
    rw [Nat.pow_succ]; omega
theorem wrap_u64_mod (n : Int) : IntKind.u64.wrap n = n % 18446744073709551616 := by
  simp [IntKind.wrap, IntKind.bits, IntKind.signed]
def oc1 (X : Int) : Int := IntKind.u64.wrap (Vc.bits .and .u64 (shiftV .shr .u64 X (1 : Int).toNat) 6148914691236517205 + Vc.bits .and .u64 X 6148914691236517205)
def oc2 (X : Int) : Int := IntKind.u64.wrap (Vc.bits .and .u64 (shiftV .shr .u64 X (2 : Int).toNat) 3689348814741910323 + Vc.bits .and .u64 X 3689348814741910323)
def oc3 (X : Int) : Int := Vc.bits .and .u64 (IntKind.u64.wrap (shiftV .shr .u64 X (4 : Int).toNat + X)) 1085102592571150095
def oc4 (X : Int) : Int := IntKind.u64.wrap (X + shiftV .shr .u64 X (8 : Int).toNat)
def oc5 (X : Int) : Int := IntKind.u64.wrap (X + shiftV .shr .u64 X (16 : Int).toNat)
def oc6 (X : Int) : Int := IntKind.u64.wrap (X + shiftV .shr .u64 X (32 : Int).toNat)
theorem oc_eq (x : Nat) (hx : x < 2 ^ 64) : Vc.bits .and .i64 (IntKind.i64.wrap (oc6 (oc5 (oc4 (oc3 (oc2 (oc1 (x : Int)))))))) 127 = ((cnt x.testBit 64 : Nat) : Int) := by
  have hA := sumA 8 x
  have hAl := sumB_lt okA 8 x
  rw [← hA] at hAl
  have hAl : (x / 2 &&& rep 85 8) + (x &&& rep 85 8) < 2 ^ 64 := hAl
  have m0 : (6148914691236517205 : Int) = ((rep 85 8 : Nat) : Int) := rfl
  have m1 : (3689348814741910323 : Int) = ((rep 51 8 : Nat) : Int) := rfl
  have m2 : (1085102592571150095 : Int) = ((rep 15 8 : Nat) : Int) := rfl
  have s1 : ∀ y : Nat, shiftV .shr .u64 (y : Int) (1 : Int).toNat = ((y / 2 : Nat) : Int) := fun y => by rw [shr_u64 y (by decide), Nat.shiftRight_eq_div_pow]; rfl
  have s2 : ∀ y : Nat, shiftV .shr .u64 (y : Int) (2 : Int).toNat = ((y / 4 : Nat) : Int) := fun y => by rw [shr_u64 y (by decide), Nat.shiftRight_eq_div_pow]; rfl
  have s4 : ∀ y : Nat, shiftV .shr .u64 (y : Int) (4 : Int).toNat = ((y / 16 : Nat) : Int) := fun y => by rw [shr_u64 y (by decide), Nat.shiftRight_eq_div_pow]; rfl
  have s8 : ∀ y : Nat, shiftV .shr .u64 (y : Int) (8 : Int).toNat = ((y / 256 : Nat) : Int) := fun y => by rw [shr_u64 y (by decide), Nat.shiftRight_eq_div_pow]; rfl
  have s16 : ∀ y : Nat, shiftV .shr .u64 (y : Int) (16 : Int).toNat = ((y / 65536 : Nat) : Int) := fun y => by rw [shr_u64 y (by decide), Nat.shiftRight_eq_div_pow]; rfl
  have s32 : ∀ y : Nat, shiftV .shr .u64 (y : Int) (32 : Int).toNat = ((y / 4294967296 : Nat) : Int) := fun y => by rw [shr_u64 y (by decide), Nat.shiftRight_eq_div_pow]; rfl
  have e1 : oc1 (x : Int) = (((x / 2 &&& rep 85 8) + (x &&& rep 85 8) : Nat) : Int) := by
    unfold oc1
    rw [s1, m0, and_u64 (by omega) (by decide), and_u64 hx (by decide), ← Int.natCast_add, u64_nat hAl]
  have hC := pop_bytes x
  rw [show (6148914691236517205 : Nat) = rep 85 8 from rfl, show (3689348814741910323 : Nat) = rep 51 8 from rfl] at hC
  have hCl := sumB_lt (fun y hy => (okC y hy).1) 8 x
  rw [← hC] at hCl
  have e2 : oc2 (oc1 (x : Int)) = (((((x / 2 &&& rep 85 8) + (x &&& rep 85 8)) / 4 &&& rep 51 8) + (((x / 2 &&& rep 85 8) + (x &&& rep 85 8)) &&& rep 51 8) : Nat) : Int) := by
    rw [e1]
    unfold oc2
    rw [s2, m1, and_u64 (by omega) (by decide), and_u64 hAl (by decide), ← Int.natCast_add, u64_nat hCl]
  rw [hC] at e2 hCl
  have hD := pop_bytes' x
  rw [show (1085102592571150095 : Nat) = rep 15 8 from rfl] at hD
  generalize sumB (fun y => (((y / 2 &&& 85) + (y &&& 85)) / 4 &&& 51) + (((y / 2 &&& 85) + (y &&& 85)) &&& 51)) 8 x = z at *
  have e3 : oc3 (oc2 (oc1 (x : Int))) = ((sumB (fun y => cnt y.testBit 8) 8 x : Nat) : Int) := by
    rw [e2]
    unfold oc3
    have hz : z / 16 + z < 2 ^ 64 ∨ ¬ z / 16 + z < 2 ^ 64 := by omega
    rw [s4, m2, ← Int.natCast_add, wrap_u64_mod]
    rw [show (((z / 16 + z : Nat) : Int) % 18446744073709551616) = (((z / 16 + z) % 2 ^ 64 : Nat) : Int) by omega]
    rw [and_u64 (Nat.mod_lt _ (by decide)) (by decide), ← hD]
    congr 1
    apply Nat.eq_of_testBit_eq
    intro j
    rw [Nat.testBit_and, Nat.testBit_and, Nat.testBit_mod_two_pow]
    by_cases hj : j < 64
    · simp [hj]
    · have : (rep 15 8).testBit j = false := bit_hi (by decide) (by omega)
      rw [this]; simp
  rw [e3]
  obtain ⟨h1, h2, h3, h4⟩ := pop_sum x _ rfl
  generalize sumB (fun y => cnt y.testBit 8) 8 x = y at *
  have e4 : oc4 (y : Int) = ((y + y / 256 : Nat) : Int) := by unfold oc4; rw [s8, ← Int.natCast_add, u64_nat h1]
  rw [e4]
  have e5 : oc5 ((y + y / 256 : Nat) : Int) = ((y + y / 256 + (y + y / 256) / 65536 : Nat) : Int) := by unfold oc5; rw [s16, ← Int.natCast_add, u64_nat h2]
  rw [e5]
  have e6 : oc6 ((y + y / 256 + (y + y / 256) / 65536 : Nat) : Int) = ((y + y / 256 + (y + y / 256) / 65536 + (y + y / 256 + (y + y / 256) / 65536) / 4294967296 : Nat) : Int) := by unfold oc6; rw [s32, ← Int.natCast_add, u64_nat h3]
  rw [e6, ← h4]
  generalize y + y / 256 + (y + y / 256) / 65536 + (y + y / 256 + (y + y / 256) / 65536) / 4294967296 = q at *
  unfold Vc.bits
  have b1 : BitVec.ofInt IntKind.i64.bits (IntKind.i64.wrap (q : Int)) = BitVec.ofNat 64 q := by
    apply BitVec.eq_of_toNat_eq
    refine Eq.trans ?_ (show q % 2 ^ 64 = (BitVec.ofNat 64 q).toNat from (BitVec.toNat_ofNat _ _).symm)
    rw [BitVec.toNat_ofInt]
    show (IntKind.i64.wrap (q : Int) % ((2 ^ 64 : Nat) : Int)).toNat = q % 2 ^ 64
    simp only [IntKind.wrap, IntKind.bits, IntKind.signed]
    simp
    split <;> omega
  show IntKind.i64.wrap ((BitVec.ofInt IntKind.i64.bits (IntKind.i64.wrap (q : Int)) &&& BitVec.ofInt IntKind.i64.bits 127).toNat : Int) = _
  rw [b1]
  have b2 : (BitVec.ofNat 64 q &&& BitVec.ofInt 64 127).toNat = q % 128 := by
    rw [BitVec.toNat_and, BitVec.toNat_ofNat, Nat.mod_eq_of_lt h3]
    exact Nat.and_two_pow_sub_one_eq_mod q 7
  show IntKind.i64.wrap ((BitVec.ofNat 64 q &&& BitVec.ofInt 64 127).toNat : Int) = _
  rw [b2, wrap_i64 (by omega) (by omega)]
theorem ones_spec (X : Int) (x : Nat) (w : World) (e : X = (x : Int)) (hx : x < 2 ^ 64) : CallC Pr f_math_bits_OnesCount64 [.int .u64 X] w (fun v w' => v = .int .i64 ((cnt x.testBit 64 : Nat) : Int) ∧ Fr No w w') := by
  refine call_sound T_ok fun_math_bits_OnesCount64 rfl (by kernel_rfl) rfl (Kp ?_)
  refine Sd_intro (by omega) ?_
  refine Sd_intro (by omega) ?_
  refine Sd_intro (by omega) ?_
  refine Sd_intro (by omega) ?_
  refine Sd_intro (by omega) ?_
  refine Sd_intro (by omega) ?_
  refine ⟨?_, Fr.refl _ _⟩
  show Value.int .i64 (Vc.bits .and .i64 (IntKind.i64.wrap (oc6 (oc5 (oc4 (oc3 (oc2 (oc1 X))))))) 127) = _
  rw [e, oc_eq x hx]
/-- The library's table, as it is laid. -/
def Tab64 (w : World) : Prop := ∀ j : Nat, j < 64 → w.cell? ⟨g_math_bits_deBruijn64tab, j, none⟩ = some (.int .u8 ((Lib.deBruijn64tab.getD j 0 : Nat) : Int))
theorem Tab64.lt {w : World} (h : Tab64 w) : g_math_bits_deBruijn64tab < w.heap.size := World.block_lt_of_cell? w _ (h 0 (by omega))
theorem Tab64.keep {w w' : World} {F : Nat → Prop} (h : Tab64 w) (f : Fr F w w') (hF : ¬ F g_math_bits_deBruijn64tab) : Tab64 w' := by
  intro j hj
  have h1 := h j hj
  have hb := h.lt
  unfold World.cell? at h1 ⊢
  have := f.blk g_math_bits_deBruijn64tab hb hF
  simp only at h1 ⊢
  rw [this]; exact h1
/-- Where the lowest bit stands. -/
theorem ctz_low {x : Nat} (h0 : x ≠ 0) (hx : x < 2 ^ 64) : Lib.ctz 64 x < 64 ∧ x.testBit (Lib.ctz 64 x) = true ∧ ∀ j, j < Lib.ctz 64 x → x.testBit j = false := by
  have hc : Lib.ctz 64 x = Lib.ctzFrom 64 x := by unfold Lib.ctz; rw [if_neg h0]
  obtain ⟨m, hm, hl⟩ := Lib.ctzFrom_spec 64 x (by omega) hx
  rw [hc]
  generalize Lib.ctzFrom 64 x = k at *
  subst hm
  refine ⟨hl, ?_, fun j hj => ?_⟩
  · rw [Nat.testBit_two_pow_mul]
    have : (2 * m + 1).testBit 0 = true := by rw [Nat.testBit_zero]; simp
    simp [this]
  · rw [Nat.testBit_two_pow_mul]
    simp; omega
theorem tz_key (X : Int) (x : Nat) (e : X = (x : Int)) (h0 : x ≠ 0) (hx : x < 2 ^ 64) :
    shiftV .shr .u64 (IntKind.u64.wrap (Vc.bits .and .u64 X (IntKind.u64.wrap (0 - X)) * 285870213051353865)) (58 : Int).toNat = ((2 ^ Lib.ctz 64 x * 285870213051353865 % 18446744073709551616 / 288230376151711744 : Nat) : Int) := by
  subst e
  obtain ⟨hlow, _⟩ := Lib.lowest_bit 64 x h0 hx
  have e1 : IntKind.u64.wrap (0 - (x : Int)) = ((2 ^ 64 - x : Nat) : Int) := by rw [wrap_u64_mod]; omega
  rw [e1, and_u64 hx (by omega), hlow, wrap_u64_mod]
  generalize 2 ^ Lib.ctz 64 x = a
  rw [show ((a : Nat) : Int) * 285870213051353865 % 18446744073709551616 = ((a * 285870213051353865 % 18446744073709551616 : Nat) : Int) by omega, shr_u64 _ (by decide), Nat.shiftRight_eq_div_pow]
  rfl
theorem tz_spec (X : Int) (x : Nat) (w : World) (e : X = (x : Int)) (h0 : x ≠ 0) (hx : x < 2 ^ 64) (hT : Tab64 w) :
    CallC Pr f_math_bits_TrailingZeros64 [.int .u64 X] w (fun v w' => v = .int .i64 ((Lib.ctz 64 x : Nat) : Int) ∧ Fr No w w') := by
  have hk := (ctz_low h0 hx).1
  obtain ⟨hi, htab⟩ := Lib.deBruijn64_at _ hk
  have key := tz_key X x e h0 hx
  have hc := hT _ hi
  rw [htab] at hc
  refine call_sound T_ok fun_math_bits_TrailingZeros64 rfl (by kernel_rfl) rfl (Kp ?_)
  refine Br_df (show ¬ X = 0 by omega) ?_
  refine Sd_intro (by omega) ?_
  refine Sd_intro (show 0 ≤ shiftV .shr .u64 (IntKind.u64.wrap (Vc.bits .and .u64 X (IntKind.u64.wrap (0 - X)) * 285870213051353865)) (58 : Int).toNat ∧ shiftV .shr .u64 (IntKind.u64.wrap (Vc.bits .and .u64 X (IntKind.u64.wrap (0 - X)) * 285870213051353865)) (58 : Int).toNat < ((64 : Nat) : Int) by rw [key]; omega) ?_
  refine LdC_intro (v := .int .u8 ((Lib.ctz 64 x : Nat) : Int)) (by
    rw [key, add_of, Int.toNat_natCast, Nat.zero_add, Nat.mul_one]; exact hc) ?_
  refine ⟨?_, Fr.refl _ _⟩
  show Value.int .i64 (IntKind.i64.wrap ((Lib.ctz 64 x : Nat) : Int)) = _
  rw [wrap_i64 (by omega) (by omega)]
theorem shl6 {k : Int} (h0 : -9223372036854775808 ≤ k * 64) (h1 : k * 64 ≤ 9223372036854775807) : shiftV .shl .i64 k (6 : Int).toNat = k * 64 := by
  rw [shl_i64 _ (by decide), wrap_i64]
  · rfl
  · exact h0
  · exact h1
theorem ones_bit (j : Nat) : (18446744073709551615 : Nat).testBit j = decide (j < 64) := Nat.testBit_two_pow_sub_one 64 j
theorem mask_spec (k frm to : Int) (w : World) (hk : 0 ≤ k) (hk1 : k ≤ 4194304) (hf0 : 0 ≤ frm) (hf1 : frm < 64 * k + 64) (ht0 : 64 * k < to) (ht1 : to ≤ 4194304) :
    CallC Pr f_bits_mask [.int .i64 k, .int .i64 frm, .int .i64 to] w (fun v w' => (∃ m : Nat, v = .int .u64 (m : Int) ∧ m < 2 ^ 64 ∧ ∀ j : Nat, j < 64 → m.testBit j = decide (frm ≤ 64 * k + j ∧ 64 * k + j < to)) ∧ Fr No w w') := by
  have es : shiftV .shl .i64 k (6 : Int).toNat = k * 64 := shl6 (by omega) (by omega)
  have eo : IntKind.i64.wrap (IntKind.i64.wrap (IntKind.i64.wrap (shiftV .shl .i64 k (6 : Int).toNat + 63) + 1) - to) = k * 64 + 64 - to := by
    rw [es, wrap_i64 (n := k * 64 + 63) (by omega) (by omega), wrap_i64 (n := k * 64 + 63 + 1) (by omega) (by omega), wrap_i64 (by omega) (by omega)]; omega
  have ed : frm > k * 64 → IntKind.u64.wrap (IntKind.i64.wrap (frm - shiftV .shl .i64 k (6 : Int).toNat)) = (((frm - k * 64).toNat : Nat) : Int) := fun h => by
    rw [es, wrap_i64 (by omega) (by omega), wrap_u64 (by omega) (by omega)]; omega
  have eu : k * 64 + 64 - to > 0 → IntKind.u64.wrap (IntKind.i64.wrap (IntKind.i64.wrap (IntKind.i64.wrap (shiftV .shl .i64 k (6 : Int).toNat + 63) + 1) - to)) = (((k * 64 + 64 - to).toNat : Nat) : Int) := fun h => by
    rw [eo, wrap_u64 (by omega) (by omega)]; omega
  have b0 : (18446744073709551615 : Int) = ((18446744073709551615 : Nat) : Int) := rfl
  refine call_sound T_ok fun_bits_mask rfl (by kernel_rfl) rfl (Kp ?_)
  refine Sd_intro (by omega) ?_
  refine Br_dec (fun g => ?_) (fun g => ?_)
  · have g : frm > shiftV .shl .i64 k (6 : Int).toNat := g
    rw [es] at g
    have hd := ed g
    refine Sd_intro (show 0 ≤ IntKind.u64.wrap (IntKind.i64.wrap (frm - shiftV .shl .i64 k (6 : Int).toNat)) by rw [hd]; omega) ?_
    refine Br_dec (fun g1 => ?_) (fun g1 => ?_)
    · have g1 : IntKind.i64.wrap (IntKind.i64.wrap (IntKind.i64.wrap (shiftV .shl .i64 k (6 : Int).toNat + 63) + 1) - to) > 0 := g1
      rw [eo] at g1
      have hu := eu g1
      refine Sd_intro (show 0 ≤ IntKind.u64.wrap (IntKind.i64.wrap (IntKind.i64.wrap (IntKind.i64.wrap (shiftV .shl .i64 k (6 : Int).toNat + 63) + 1) - to)) by rw [hu]; omega) ?_
      refine Sd_intro (show 0 ≤ IntKind.u64.wrap (IntKind.i64.wrap (IntKind.i64.wrap (IntKind.i64.wrap (shiftV .shl .i64 k (6 : Int).toNat + 63) + 1) - to)) by rw [hu]; omega) ?_
      refine Br_dt (show frm > shiftV .shl .i64 k (6 : Int).toNat by rw [es]; exact g) ?_
      refine Sd_intro (show 0 ≤ IntKind.u64.wrap (IntKind.i64.wrap (frm - shiftV .shl .i64 k (6 : Int).toNat)) by rw [hd]; omega) ?_
      refine Sd_intro (show 0 ≤ IntKind.u64.wrap (IntKind.i64.wrap (frm - shiftV .shl .i64 k (6 : Int).toNat)) by rw [hd]; omega) ?_
      refine ⟨⟨((18446744073709551615 <<< (frm - k * 64).toNat % 2 ^ 64) <<< (k * 64 + 64 - to).toNat % 2 ^ 64) >>> (k * 64 + 64 - to).toNat >>> (frm - k * 64).toNat <<< (frm - k * 64).toNat % 2 ^ 64, ?_, shlN_lt _ _, fun j hj => ?_⟩, Fr.refl _ _⟩
      · show Value.int .u64 (shiftV .shl .u64 (shiftV .shr .u64 (shiftV .shr .u64 (shiftV .shl .u64 (shiftV .shl .u64 18446744073709551615 (IntKind.u64.wrap (IntKind.i64.wrap (frm - shiftV .shl .i64 k (6 : Int).toNat))).toNat)
          (IntKind.u64.wrap (IntKind.i64.wrap (IntKind.i64.wrap (IntKind.i64.wrap (shiftV .shl .i64 k (6 : Int).toNat + 63) + 1) - to))).toNat) (IntKind.u64.wrap (IntKind.i64.wrap (IntKind.i64.wrap (IntKind.i64.wrap (shiftV .shl .i64 k (6 : Int).toNat + 63) + 1) - to))).toNat)
          (IntKind.u64.wrap (IntKind.i64.wrap (frm - shiftV .shl .i64 k (6 : Int).toNat))).toNat) (IntKind.u64.wrap (IntKind.i64.wrap (frm - shiftV .shl .i64 k (6 : Int).toNat))).toNat) = _
        rw [hd, hu, Int.toNat_natCast, Int.toNat_natCast, b0, shl_u64 _ (by omega), shl_u64 _ (by omega), shr_u64 _ (by omega), shr_u64 _ (by omega), shl_u64 _ (by omega)]
      · rw [shlN_bit, shrN_bit, shrN_bit, shlN_bit, shlN_bit, ones_bit, Bool.eq_iff_iff]
        simp only [Bool.and_eq_true, decide_eq_true_eq]
        exact ⟨fun h => by omega, fun h => by omega⟩
    · have g1 : ¬ IntKind.i64.wrap (IntKind.i64.wrap (IntKind.i64.wrap (shiftV .shl .i64 k (6 : Int).toNat + 63) + 1) - to) > 0 := g1
      rw [eo] at g1
      refine ⟨⟨18446744073709551615 <<< (frm - k * 64).toNat % 2 ^ 64, ?_, shlN_lt _ _, fun j hj => ?_⟩, Fr.refl _ _⟩
      · show Value.int .u64 (shiftV .shl .u64 18446744073709551615 (IntKind.u64.wrap (IntKind.i64.wrap (frm - shiftV .shl .i64 k (6 : Int).toNat))).toNat) = _
        rw [hd, Int.toNat_natCast, b0, shl_u64 _ (by omega)]
      · rw [shlN_bit, ones_bit, Bool.eq_iff_iff]
        simp only [Bool.and_eq_true, decide_eq_true_eq]
        exact ⟨fun h => by omega, fun h => by omega⟩
  · have g : ¬ frm > shiftV .shl .i64 k (6 : Int).toNat := g
    rw [es] at g
    refine Br_dec (fun g1 => ?_) (fun g1 => ?_)
    · have g1 : IntKind.i64.wrap (IntKind.i64.wrap (IntKind.i64.wrap (shiftV .shl .i64 k (6 : Int).toNat + 63) + 1) - to) > 0 := g1
      rw [eo] at g1
      have hu := eu g1
      refine Sd_intro (show 0 ≤ IntKind.u64.wrap (IntKind.i64.wrap (IntKind.i64.wrap (IntKind.i64.wrap (shiftV .shl .i64 k (6 : Int).toNat + 63) + 1) - to)) by rw [hu]; omega) ?_
      refine Sd_intro (show 0 ≤ IntKind.u64.wrap (IntKind.i64.wrap (IntKind.i64.wrap (IntKind.i64.wrap (shiftV .shl .i64 k (6 : Int).toNat + 63) + 1) - to)) by rw [hu]; omega) ?_
      refine Br_df (show ¬ frm > shiftV .shl .i64 k (6 : Int).toNat by rw [es]; exact g) ?_
      refine ⟨⟨(18446744073709551615 <<< (k * 64 + 64 - to).toNat % 2 ^ 64) >>> (k * 64 + 64 - to).toNat, ?_, shrN_lt _ (shlN_lt _ _), fun j hj => ?_⟩, Fr.refl _ _⟩
      · show Value.int .u64 (shiftV .shr .u64 (shiftV .shl .u64 18446744073709551615
          (IntKind.u64.wrap (IntKind.i64.wrap (IntKind.i64.wrap (IntKind.i64.wrap (shiftV .shl .i64 k (6 : Int).toNat + 63) + 1) - to))).toNat) (IntKind.u64.wrap (IntKind.i64.wrap (IntKind.i64.wrap (IntKind.i64.wrap (shiftV .shl .i64 k (6 : Int).toNat + 63) + 1) - to))).toNat) = _
        rw [hu, Int.toNat_natCast, b0, shl_u64 _ (by omega), shr_u64 _ (by omega)]
      · rw [shrN_bit, shlN_bit, ones_bit, Bool.eq_iff_iff]
        simp only [Bool.and_eq_true, decide_eq_true_eq]
        exact ⟨fun h => by omega, fun h => by omega⟩
    · have g1 : ¬ IntKind.i64.wrap (IntKind.i64.wrap (IntKind.i64.wrap (shiftV .shl .i64 k (6 : Int).toNat + 63) + 1) - to) > 0 := g1
      rw [eo] at g1
      refine ⟨⟨18446744073709551615, rfl, by decide, fun j hj => ?_⟩, Fr.refl _ _⟩
      rw [ones_bit]
      exact decide_eq_decide.2 ⟨fun h => by omega, fun h => by omega⟩
end Go.Proofs.YtilhoimokegpjaaDoor
