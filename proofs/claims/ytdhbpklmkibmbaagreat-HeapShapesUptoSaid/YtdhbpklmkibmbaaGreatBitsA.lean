/- Words of 64 bits as numbers; how many bits are set. -/
import Derived.Test.YtdhbpklmkibmbaaGreatVcI
import Derived.Lib.TrailingZeros
namespace Go.Vc

theorem u64_nat {m : Nat} (h : m < 2 ^ 64) : IntKind.u64.wrap (m : Int) = m := wrap_u64 (by omega) (by omega)
theorem ofInt_nat {m : Nat} (h : m < 2 ^ 64) : (BitVec.ofInt IntKind.u64.bits (m : Int)).toNat = m := by
  rw [BitVec.toNat_ofInt]
  show ((m : Int) % ((2 ^ 64 : Nat) : Int)).toNat = m
  rw [Int.emod_eq_of_lt (by omega) (by omega)]; rfl
theorem and_u64 {x y : Nat} (hx : x < 2 ^ 64) (hy : y < 2 ^ 64) : Vc.bits .and .u64 (x : Int) (y : Int) = ((x &&& y : Nat) : Int) := by
  unfold Vc.bits
  show IntKind.u64.wrap ((BitVec.ofInt IntKind.u64.bits x &&& BitVec.ofInt IntKind.u64.bits y).toNat : Int) = _
  rw [BitVec.toNat_and, ofInt_nat hx, ofInt_nat hy]
  exact u64_nat (Nat.and_lt_two_pow _ hy)
theorem or_u64 {x y : Nat} (hx : x < 2 ^ 64) (hy : y < 2 ^ 64) : Vc.bits .or .u64 (x : Int) (y : Int) = ((x ||| y : Nat) : Int) := by
  unfold Vc.bits
  show IntKind.u64.wrap ((BitVec.ofInt IntKind.u64.bits x ||| BitVec.ofInt IntKind.u64.bits y).toNat : Int) = _
  rw [BitVec.toNat_or, ofInt_nat hx, ofInt_nat hy]
  exact u64_nat (Nat.or_lt_two_pow hx hy)
/-- What is left of x without y's bits. -/
def without (x y : Nat) : Nat := (BitVec.ofNat 64 x &&& ~~~ BitVec.ofNat 64 y).toNat
theorem without_lt (x y : Nat) : without x y < 2 ^ 64 := BitVec.isLt _
theorem without_bit {x y : Nat} (hx : x < 2 ^ 64) (j : Nat) : (without x y).testBit j = (x.testBit j && !y.testBit j) := by
  unfold without
  rw [BitVec.testBit_toNat, BitVec.getLsbD_and, BitVec.getLsbD_not, BitVec.getLsbD_ofNat, BitVec.getLsbD_ofNat]
  by_cases h : j < 64
  · simp [h]
  · have : x.testBit j = false := Nat.testBit_lt_two_pow (Nat.lt_of_lt_of_le hx (Nat.pow_le_pow_right (by omega) (by omega)))
    simp [h, this]
theorem without_u64 (x y : Nat) : Vc.bits .andNot .u64 (x : Int) (y : Int) = ((without x y : Nat) : Int) := by
  unfold Vc.bits
  show IntKind.u64.wrap ((BitVec.ofInt IntKind.u64.bits x &&& ~~~ BitVec.ofInt IntKind.u64.bits y).toNat : Int) = _
  have e : ∀ m : Nat, BitVec.ofInt IntKind.u64.bits (m : Int) = BitVec.ofNat 64 m := fun m => BitVec.ofInt_natCast 64 m
  rw [e, e]
  exact u64_nat (without_lt x y)
theorem shr_u64 (x : Nat) {k : Nat} (hk : k ≤ 64) : shiftV .shr .u64 (x : Int) k = ((x >>> k : Nat) : Int) := by
  unfold shiftV
  rw [show IntKind.u64.bits = 64 from rfl, Nat.min_eq_left hk]
  show (x : Int).fdiv (2 ^ k) = _
  rw [Int.fdiv_eq_ediv_of_nonneg _ (Int.pow_nonneg (by omega)), Nat.shiftRight_eq_div_pow, Int.natCast_ediv, Int.natCast_pow]
  rfl
theorem shl_u64 (x : Nat) {k : Nat} (hk : k ≤ 64) : shiftV .shl .u64 (x : Int) k = ((x <<< k % 2 ^ 64 : Nat) : Int) := by
  unfold shiftV
  rw [show IntKind.u64.bits = 64 from rfl, Nat.min_eq_left hk]
  show IntKind.u64.wrap ((x : Int) * 2 ^ k) = _
  have e : (x : Int) * 2 ^ k = ((x <<< k : Nat) : Int) := by rw [Nat.shiftLeft_eq, Int.natCast_mul, Int.natCast_pow]; rfl
  rw [e]
  have w : ∀ m : Nat, IntKind.u64.wrap (m : Int) = ((m % 2 ^ 64 : Nat) : Int) := by
    intro m
    simp only [IntKind.wrap, IntKind.bits, IntKind.signed]
    simp
  exact w _
theorem shlN_bit (x k j : Nat) : (x <<< k % 2 ^ 64).testBit j = (decide (j < 64) && (decide (k ≤ j) && x.testBit (j - k))) := by
  rw [Nat.testBit_mod_two_pow, Nat.testBit_shiftLeft]
theorem shrN_bit (x k j : Nat) : (x >>> k).testBit j = x.testBit (k + j) := Nat.testBit_shiftRight x
theorem shrN_lt {x : Nat} (k : Nat) (h : x < 2 ^ 64) : x >>> k < 2 ^ 64 := by
  rw [Nat.shiftRight_eq_div_pow]; exact Nat.lt_of_le_of_lt (Nat.div_le_self _ _) h
theorem shlN_lt (x k : Nat) : x <<< k % 2 ^ 64 < 2 ^ 64 := Nat.mod_lt _ (by decide)
theorem bit_hi {x j : Nat} (h : x < 2 ^ 64) (hj : 64 ≤ j) : x.testBit j = false := Nat.testBit_lt_two_pow (Nat.lt_of_lt_of_le h (Nat.pow_le_pow_right (by omega) hj))
theorem and63 {i : Int} (h0 : 0 ≤ i) (h1 : i ≤ 4294967295) : Vc.bits .and .i64 i 63 = i % 64 := by
  have bt : ∀ z : Int, 0 ≤ z → z < 18446744073709551616 → (BitVec.ofInt IntKind.i64.bits z).toNat = z.toNat := by
    intro z h0 h1
    rw [BitVec.toNat_ofInt]
    show (z % ((2 ^ 64 : Nat) : Int)).toNat = z.toNat
    rw [Int.emod_eq_of_lt (by omega) (by omega)]
  unfold Vc.bits
  show IntKind.i64.wrap ((BitVec.ofInt IntKind.i64.bits i &&& BitVec.ofInt IntKind.i64.bits 63).toNat : Int) = _
  rw [BitVec.toNat_and, bt i (by omega) (by omega), bt 63 (by omega) (by omega)]
  have e : i.toNat &&& (63 : Int).toNat = i.toNat % 64 := Nat.and_two_pow_sub_one_eq_mod i.toNat 6
  rw [e, wrap_i64 (by omega) (by omega)]
  omega

/-- How many numbers below m are in a set. -/
def cnt (S : Nat → Bool) : Nat → Nat
  | 0 => 0
  | m + 1 => cnt S m + (S m).toNat
theorem cnt_add (S : Nat → Bool) (a b : Nat) : cnt S (a + b) = cnt S a + cnt (fun j => S (a + j)) b := by
  induction b with
  | zero => rfl
  | succ b ih => rw [← Nat.add_assoc]; simp only [cnt]; rw [ih]; omega
theorem cnt_congr {S S' : Nat → Bool} {m : Nat} (h : ∀ j, j < m → S j = S' j) : cnt S m = cnt S' m := by
  induction m with
  | zero => rfl
  | succ m ih => simp only [cnt]; rw [ih (fun j hj => h j (by omega)), h m (by omega)]
theorem cnt_le (S : Nat → Bool) (m : Nat) : cnt S m ≤ m := by
  induction m with
  | zero => exact Nat.le_refl _
  | succ m ih => simp only [cnt]; have := Bool.toNat_le (S m); omega
theorem cnt_none {S : Nat → Bool} {m : Nat} (h : ∀ j, j < m → S j = false) : cnt S m = 0 := by
  induction m with
  | zero => rfl
  | succ m ih => simp only [cnt]; rw [ih (fun j hj => h j (by omega)), h m (by omega)]; rfl
theorem cnt_more {S : Nat → Bool} {m n : Nat} (hmn : m ≤ n) (h : ∀ j, m ≤ j → j < n → S j = false) : cnt S n = cnt S m := by
  obtain ⟨d, rfl⟩ : ∃ d, n = m + d := ⟨n - m, by omega⟩
  rw [cnt_add, cnt_none (fun j hj => h (m + j) (by omega) (by omega))]; rfl
theorem cnt_or {S A B : Nat → Bool} {m : Nat} (h : ∀ j, j < m → (S j).toNat = (A j).toNat + (B j).toNat) : cnt S m = cnt A m + cnt B m := by
  induction m with
  | zero => rfl
  | succ m ih => simp only [cnt]; rw [ih (fun j hj => h j (by omega)), h m (by omega)]; omega

/- The bits of a word, counted as the library does it. -/
def sumB (f : Nat → Nat) : Nat → Nat → Nat
  | 0, _ => 0
  | n + 1, x => f (x % 256) + 256 * sumB f n (x / 256)
def rep (c : Nat) : Nat → Nat
  | 0 => 0
  | n + 1 => c + 256 * rep c n
theorem sumB_id : ∀ (n x : Nat), x < 256 ^ n → sumB id n x = x
  | 0, x, h => by simp at h; subst h; rfl
  | n + 1, x, h => by
    simp only [sumB, id]
    rw [sumB_id n (x / 256) (by rw [Nat.div_lt_iff_lt_mul (by omega)]; rw [Nat.pow_succ] at h; exact h)]
    omega
theorem sumB_comp {f g : Nat → Nat} (hf : ∀ x, x < 256 → f x < 256) : ∀ (n x : Nat), sumB g n (sumB f n x) = sumB (fun y => g (f y)) n x
  | 0, _ => rfl
  | n + 1, x => by
    have h := hf (x % 256) (Nat.mod_lt _ (by omega))
    simp only [sumB]
    rw [show (f (x % 256) + 256 * sumB f n (x / 256)) % 256 = f (x % 256) by omega, show (f (x % 256) + 256 * sumB f n (x / 256)) / 256 = sumB f n (x / 256) by omega, sumB_comp hf n]
theorem sumB_congr {f g : Nat → Nat} (h : ∀ x, x < 256 → f x = g x) : ∀ (n x : Nat), sumB f n x = sumB g n x
  | 0, _ => rfl
  | n + 1, x => by simp only [sumB]; rw [h _ (Nat.mod_lt _ (by omega)), sumB_congr h n]
theorem and_split (a b : Nat) : a &&& b = ((a % 256) &&& (b % 256)) + 256 * ((a / 256) &&& (b / 256)) := by
  have h1 : (a &&& b) % 2 ^ 8 = (a % 2 ^ 8) &&& (b % 2 ^ 8) := Nat.and_mod_two_pow
  have h2 : (a &&& b) / 2 ^ 8 = (a / 2 ^ 8) &&& (b / 2 ^ 8) := Nat.and_div_two_pow
  have e : (2 : Nat) ^ 8 = 256 := rfl
  rw [e] at h1 h2
  rw [← h1, ← h2]; omega
theorem sumA : ∀ (n x : Nat), (x / 2 &&& rep 85 n) + (x &&& rep 85 n) = sumB (fun y => (y / 2 &&& 85) + (y &&& 85)) n x
  | 0, x => by simp [rep, sumB]
  | n + 1, x => by
    have ih := sumA n (x / 256)
    rw [and_split (x / 2) (rep 85 (n + 1)), and_split x (rep 85 (n + 1))]
    simp only [rep, sumB]
    rw [show (85 + 256 * rep 85 n) % 256 = 85 by omega, show (85 + 256 * rep 85 n) / 256 = rep 85 n by omega, ← ih, show x / 2 / 256 = x / 256 / 2 by omega]
    have : x / 2 % 256 &&& 85 = x % 256 / 2 &&& 85 := by
      have e : x / 2 % 256 = x % 256 / 2 + 128 * (x / 256 % 2) := by omega
      have h : ∀ a, a < 128 → ∀ b, b < 2 → (a + 128 * b) &&& 85 = a &&& 85 := by decide +kernel
      rw [e]; exact h _ (by omega) _ (by omega)
    rw [this]; omega
theorem sumC : ∀ (n x : Nat), (x / 4 &&& rep 51 n) + (x &&& rep 51 n) = sumB (fun y => (y / 4 &&& 51) + (y &&& 51)) n x
  | 0, x => by simp [rep, sumB]
  | n + 1, x => by
    have ih := sumC n (x / 256)
    rw [and_split (x / 4) (rep 51 (n + 1)), and_split x (rep 51 (n + 1))]
    simp only [rep, sumB]
    rw [show (51 + 256 * rep 51 n) % 256 = 51 by omega, show (51 + 256 * rep 51 n) / 256 = rep 51 n by omega, ← ih, show x / 4 / 256 = x / 256 / 4 by omega]
    have : x / 4 % 256 &&& 51 = x % 256 / 4 &&& 51 := by
      have e : x / 4 % 256 = x % 256 / 4 + 64 * (x / 256 % 4) := by omega
      have h : ∀ a, a < 64 → ∀ b, b < 4 → (a + 64 * b) &&& 51 = a &&& 51 := by decide +kernel
      rw [e]; exact h _ (by omega) _ (by omega)
    rw [this]; omega
/-- Nibbles of at most four. -/
def nib (y : Nat) : Bool := Nat.ble (y % 16) 4 && Nat.ble (y / 16) 4
theorem sumD (f : Nat → Nat) (hf : ∀ x, x < 256 → f x < 256 ∧ nib (f x) = true) : ∀ (n x : Nat), (sumB f n x / 16 + sumB f n x) &&& rep 15 n = sumB (fun y => (f y / 16 + f y) &&& 15) n x
  | 0, x => by simp [rep, sumB]
  | n + 1, x => by
    have ih := sumD f hf n (x / 256)
    obtain ⟨h1, h2⟩ := hf (x % 256) (Nat.mod_lt _ (by omega))
    have hn : f (x % 256) % 16 ≤ 4 ∧ f (x % 256) / 16 ≤ 4 := by
      simp only [nib, Bool.and_eq_true] at h2
      exact ⟨Nat.le_of_ble_eq_true h2.1, Nat.le_of_ble_eq_true h2.2⟩
    have low : sumB f n (x / 256) % 16 ≤ 4 := by
      cases n with
      | zero => simp [sumB]
      | succ n =>
        obtain ⟨_, h4⟩ := hf (x / 256 % 256) (Nat.mod_lt _ (by omega))
        simp only [nib, Bool.and_eq_true] at h4
        have := Nat.le_of_ble_eq_true h4.1
        simp only [sumB]; omega
    rw [and_split _ (rep 15 (n + 1))]
    simp only [rep, sumB]
    rw [show (15 + 256 * rep 15 n) % 256 = 15 by omega, show (15 + 256 * rep 15 n) / 256 = rep 15 n by omega, ← ih]
    generalize sumB f n (x / 256) = H at *
    generalize f (x % 256) = L at *
    rw [show ((L + 256 * H) / 16 + (L + 256 * H)) / 256 = H / 16 + H by omega]
    have : ((L + 256 * H) / 16 + (L + 256 * H)) % 256 &&& 15 = (L / 16 + L) &&& 15 := by
      have m : ∀ a : Nat, a &&& 15 = a % 16 := fun a => Nat.and_two_pow_sub_one_eq_mod a 4
      rw [m, m]; omega
    rw [this]
theorem pop8 : ∀ y, y < 256 → (((((y / 2 &&& 85) + (y &&& 85)) / 4 &&& 51) + (((y / 2 &&& 85) + (y &&& 85)) &&& 51)) / 16 + ((((y / 2 &&& 85) + (y &&& 85)) / 4 &&& 51) + (((y / 2 &&& 85) + (y &&& 85)) &&& 51))) &&& 15 = cnt y.testBit 8 := by decide +kernel
theorem okA : ∀ y, y < 256 → (y / 2 &&& 85) + (y &&& 85) < 256 := by decide +kernel
theorem okC : ∀ y, y < 256 → ((((y / 2 &&& 85) + (y &&& 85)) / 4 &&& 51) + (((y / 2 &&& 85) + (y &&& 85)) &&& 51)) < 256 ∧ nib ((((y / 2 &&& 85) + (y &&& 85)) / 4 &&& 51) + (((y / 2 &&& 85) + (y &&& 85)) &&& 51)) = true := by decide +kernel
/-- Steps one to three: each byte its bits' number. -/
theorem pop_bytes (x : Nat) :
    ((((x / 2 &&& 6148914691236517205) + (x &&& 6148914691236517205)) / 4 &&& 3689348814741910323) + (((x / 2 &&& 6148914691236517205) + (x &&& 6148914691236517205)) &&& 3689348814741910323)) = sumB (fun y => (((y / 2 &&& 85) + (y &&& 85)) / 4 &&& 51) + (((y / 2 &&& 85) + (y &&& 85)) &&& 51)) 8 x := by
  rw [show (6148914691236517205 : Nat) = rep 85 8 from rfl, show (3689348814741910323 : Nat) = rep 51 8 from rfl, sumA, sumC, sumB_comp okA]
theorem pop_bytes' (x : Nat) :
    (sumB (fun y => (((y / 2 &&& 85) + (y &&& 85)) / 4 &&& 51) + (((y / 2 &&& 85) + (y &&& 85)) &&& 51)) 8 x / 16 + sumB (fun y => (((y / 2 &&& 85) + (y &&& 85)) / 4 &&& 51) + (((y / 2 &&& 85) + (y &&& 85)) &&& 51)) 8 x) &&& 1085102592571150095 = sumB (fun y => cnt y.testBit 8) 8 x := by
  rw [show (1085102592571150095 : Nat) = rep 15 8 from rfl, sumD _ okC]
  exact sumB_congr pop8 8 x
theorem cnt_split (x n : Nat) : cnt x.testBit (8 + n) = cnt (x % 256).testBit 8 + cnt (x / 256).testBit n := by
  rw [cnt_add]
  congr 1
  · refine cnt_congr fun j hj => ?_
    have : (x % 2 ^ 8).testBit j = (decide (j < 8) && x.testBit j) := Nat.testBit_mod_two_pow x 8 j
    rw [show (2 : Nat) ^ 8 = 256 from rfl] at this
    rw [this]; simp [hj]
  · refine cnt_congr fun j _ => ?_
    have : (x / 2 ^ 8).testBit j = x.testBit (j + 8) := Nat.testBit_div_two_pow x j
    rw [show (2 : Nat) ^ 8 = 256 from rfl, Nat.add_comm] at this
    exact this.symm
def sumP : Nat → Nat → Nat
  | 0, _ => 0
  | n + 1, x => cnt (x % 256).testBit 8 + sumP n (x / 256)
theorem cnt_sumP : ∀ (n x : Nat), cnt x.testBit (8 * n) = sumP n x
  | 0, _ => rfl
  | n + 1, x => by rw [show 8 * (n + 1) = 8 + 8 * n by omega, cnt_split, cnt_sumP n]; rfl
theorem popA (p0 p1 p2 p3 p4 p5 p6 p7 Z : Nat) (h0 : p0 ≤ 8) (_h1 : p1 ≤ 8) (_h2 : p2 ≤ 8) (_h3 : p3 ≤ 8) (_h4 : p4 ≤ 8) (_h5 : p5 ≤ 8) (_h6 : p6 ≤ 8) (_h7 : p7 ≤ 8)
  (ez : p0 + 256 * (p1 + 256 * (p2 + 256 * (p3 + 256 * (p4 + 256 * (p5 + 256 * (p6 + 256 * (p7 + 256 * 0))))))) = Z) :
  Z / 256 = p1 + 256 * (p2 + 256 * (p3 + 256 * (p4 + 256 * (p5 + 256 * (p6 + 256 * p7))))) := by omega
theorem popB (p0 p1 p2 p3 p4 p5 p6 p7 Z Y : Nat) (h0 : p0 ≤ 8) (h1 : p1 ≤ 8) (h2 : p2 ≤ 8) (h3 : p3 ≤ 8) (h4 : p4 ≤ 8) (h5 : p5 ≤ 8) (h6 : p6 ≤ 8) (h7 : p7 ≤ 8)
  (ez : p0 + 256 * (p1 + 256 * (p2 + 256 * (p3 + 256 * (p4 + 256 * (p5 + 256 * (p6 + 256 * (p7 + 256 * 0))))))) = Z)
  (ey : Y = p1 + 256 * (p2 + 256 * (p3 + 256 * (p4 + 256 * (p5 + 256 * (p6 + 256 * p7)))))) :
  (Z + Y) / 65536 = (p2 + p3) + 256 * ((p3 + p4) + 256 * ((p4 + p5) + 256 * ((p5 + p6) + 256 * ((p6 + p7) + 256 * p7)))) := by omega
theorem popC (p0 p1 p2 p3 p4 p5 p6 p7 Z Y X : Nat) (h0 : p0 ≤ 8) (h1 : p1 ≤ 8) (h2 : p2 ≤ 8) (h3 : p3 ≤ 8) (h4 : p4 ≤ 8) (h5 : p5 ≤ 8) (h6 : p6 ≤ 8) (h7 : p7 ≤ 8)
  (ez : p0 + 256 * (p1 + 256 * (p2 + 256 * (p3 + 256 * (p4 + 256 * (p5 + 256 * (p6 + 256 * (p7 + 256 * 0))))))) = Z)
  (ey : Y = p1 + 256 * (p2 + 256 * (p3 + 256 * (p4 + 256 * (p5 + 256 * (p6 + 256 * p7))))))
  (ex : X = (p2 + p3) + 256 * ((p3 + p4) + 256 * ((p4 + p5) + 256 * ((p5 + p6) + 256 * ((p6 + p7) + 256 * p7)))))  :
  (Z + Y + X) / 4294967296 = (p4 + p5 + p6 + p7) + 256 * ((p5 + p6 + p7) + 256 * ((p6 + p7) + 256 * p7)) := by omega
theorem popD (p0 p1 p2 p3 p4 p5 p6 p7 Z Y X W: Nat) (h0 : p0 ≤ 8) (h1 : p1 ≤ 8) (h2 : p2 ≤ 8) (h3 : p3 ≤ 8) (h4 : p4 ≤ 8) (h5 : p5 ≤ 8) (h6 : p6 ≤ 8) (h7 : p7 ≤ 8)
  (ez : p0 + 256 * (p1 + 256 * (p2 + 256 * (p3 + 256 * (p4 + 256 * (p5 + 256 * (p6 + 256 * (p7 + 256 * 0))))))) = Z)
  (ey : Y = p1 + 256 * (p2 + 256 * (p3 + 256 * (p4 + 256 * (p5 + 256 * (p6 + 256 * p7))))))
  (ex : X = (p2 + p3) + 256 * ((p3 + p4) + 256 * ((p4 + p5) + 256 * ((p5 + p6) + 256 * ((p6 + p7) + 256 * p7)))))  
  (ew : W = (p4 + p5 + p6 + p7) + 256 * ((p5 + p6 + p7) + 256 * ((p6 + p7) + 256 * p7))) :
  Z + Y < 18446744073709551616 ∧ (Z + Y + X) < 18446744073709551616 ∧ Z + Y + X + W < 18446744073709551616 ∧ (Z + Y + X + W) % 128 = p0 + (p1 + (p2 + (p3 + (p4 + (p5 + (p6 + (p7 + 0))))))) := by refine ⟨?_, ?_, ?_, ?_⟩ <;> omega
/-- Steps four to six: all bytes together. -/
theorem pop_sum (x z : Nat) (hz : z = sumB (fun y => cnt y.testBit 8) 8 x) :
    z + z / 256 < 2 ^ 64 ∧ (z + z / 256) + (z + z / 256) / 65536 < 2 ^ 64 ∧ (z + z / 256) + (z + z / 256) / 65536 + ((z + z / 256) + (z + z / 256) / 65536) / 4294967296 < 2 ^ 64 ∧
    ((z + z / 256) + (z + z / 256) / 65536 + ((z + z / 256) + (z + z / 256) / 65536) / 4294967296) % 128 = cnt x.testBit 64 := by
  have l : ∀ y : Nat, cnt y.testBit 8 ≤ 8 := fun y => cnt_le _ 8
  rw [show (64 : Nat) = 8 * 8 from rfl, cnt_sumP 8 x]
  simp only [sumB] at hz
  simp only [sumP]
  have eY := popA _ _ _ _ _ _ _ _ z (l _) (l _) (l _) (l _) (l _) (l _) (l _) (l _) hz.symm
  have eX := popB _ _ _ _ _ _ _ _ z _ (l _) (l _) (l _) (l _) (l _) (l _) (l _) (l _) hz.symm eY
  have eW := popC _ _ _ _ _ _ _ _ z _ _ (l _) (l _) (l _) (l _) (l _) (l _) (l _) (l _) hz.symm eY eX
  exact popD _ _ _ _ _ _ _ _ z _ _ _ (l _) (l _) (l _) (l _) (l _) (l _) (l _) (l _) hz.symm eY eX eW
end Go.Vc
