/- Layer 1 (bits): Next, Count, Fill, List. -/
import Derived.Test.YtilhoimokegpjaaDoorBitsC
namespace Go.Proofs.YtilhoimokegpjaaDoor
open Go.Vc

/-- The least number of a set from one on; -1: there is none. -/
def NextIs (S : Nat → Bool) (i : Nat) (v : Int) : Prop :=
  (v = -1 ∧ ∀ p, i ≤ p → S p = false) ∨ ∃ p : Nat, v = p ∧ i ≤ p ∧ S p = true ∧ ∀ q, i ≤ q → q < p → S q = false
theorem NextIs.uniq {S : Nat → Bool} {i : Nat} {v v' : Int} (h : NextIs S i v) (h' : NextIs S i v') : v = v' := by
  rcases h with ⟨rfl, h⟩ | ⟨p, rfl, h1, h2, h3⟩ <;> rcases h' with ⟨rfl, g⟩ | ⟨q, rfl, g1, g2, g3⟩
  · rfl
  · rw [h q g1] at g2; cases g2
  · rw [g p h1] at h2; cases h2
  · have : p = q := by
      rcases Nat.lt_trichotomy p q with h | h | h
      · rw [g3 p h1 h] at h2; cases h2
      · exact h
      · rw [h3 q g1 h] at g2; cases g2
    rw [this]
theorem NextIs.congr {S S' : Nat → Bool} {i : Nat} {v : Int} (h : NextIs S i v) (e : ∀ p, S p = S' p) : NextIs S' i v := by
  have : S = S' := funext e
  exact this ▸ h
theorem Next_nil (i : Int) (w : World) : CallC Pr f_bits_Set_Next [.pointer none, .int .i64 i] w (fun v w' => v = .int .i64 (-1) ∧ Fr No w w') := by
  refine call_sound T_ok fun_bits_Set_Next rfl (by kernel_rfl) rfl (Kp ?_)
  exact ⟨rfl, Fr.refl _ _⟩
theorem bit_shift {x d j : Nat} (hx : x < 2 ^ 64) : ((x >>> d) <<< d % 2 ^ 64).testBit j = (decide (d ≤ j) && x.testBit j) := by
  rw [shlN_bit, shrN_bit]
  by_cases h : d ≤ j
  · rw [show d + (j - d) = j by omega]
    by_cases hj : j < 64
    · simp [hj]
    · have := bit_hi hx (show 64 ≤ j by omega)
      simp [this]
  · simp [h]
theorem no_bit {x : Nat} (hx : x < 2 ^ 64) (h : ∀ j, j < 64 → x.testBit j = false) : x = 0 := by
  apply Nat.eq_of_testBit_eq
  intro j
  rw [Nat.zero_testBit]
  by_cases hj : j < 64
  · exact h j hj
  · exact bit_hi hx (by omega)
theorem Next_spec {b r : Nat} {n : Int} {S : Nat → Bool} (i : Int) (w : World) (h : IsBits w b r n S) (hT : Tab64 w) :
    CallC Pr f_bits_Set_Next [.pointer (some ⟨b, 0, none⟩), .int .i64 i] w (fun v w' => (∃ z, v = .int .i64 z ∧ NextIs S (max i 0).toNat z) ∧ Fr No w w') := by
  obtain ⟨ws, h, he⟩ := h
  have hn := h.n1
  have hlen := h.len
  refine call_sound T_ok fun_bits_Set_Next rfl (by kernel_rfl) rfl (Kp ?_)
  refine LdC_blk h.tab rfl ?_
  refine Br_dec (fun g => ?_) (fun g => ?_)
  · have g : imax i 0 ≥ n := g
    rw [imax_eq] at g
    refine ⟨⟨-1, rfl, .inl ⟨rfl, fun p hp => ?_⟩⟩, Fr.refl _ _⟩
    cases hs : S p with
    | false => rfl
    | true => have := h.hi p ((he p).trans hs); omega
  · have g : ¬ imax i 0 ≥ n := g
    rw [imax_eq] at g
    generalize hI : max i 0 = I at g
    have hI0 : 0 ≤ I := by omega
    have eI : imax i 0 = I := by rw [imax_eq, hI]
    have hIN : I < n := by omega
    obtain ⟨x0, hx0, hx02⟩ := h.word hI0 hIN
    have hl0 := (List.getElem?_eq_some_iff.1 hx0).1
    have mw : ∀ (k : Nat) (x : Nat), ws[k]? = some x → ∀ j, j < 64 → x.testBit j = S (64 * k + j) := fun k x hk j hj => by rw [← mem_word hk j hj, he]
    have hw0 := kbitN (i := imax i 0) (by omega) (by omega)
    have hw1 := kbit0 (i := imax i 0) (by omega) (by omega)
    refine Sd_intro (by omega) ?_
    refine LdC_blk h.tab rfl ?_
    refine Sd_intro (show 0 ≤ shiftV .shr .i64 (imax i 0) (6 : Int).toNat ∧ shiftV .shr .i64 (imax i 0) (6 : Int).toNat < (ws.length : Int) by rw [shr6, eI]; omega) ?_
    refine LdC_idx (v := .int .u64 (x0 : Int)) h.row (by
      show (u64s ws)[0 + (shiftV .shr .i64 (imax i 0) (6 : Int).toNat).toNat * 1]? = _
      rw [shr6, eI, Nat.zero_add, Nat.mul_one, show (I / 64).toNat = I.toNat / 64 by omega]
      exact u64s_get? hx0) ?_
    refine Sd_intro hw1 ?_
    refine Sd_intro hw1 ?_
    have ev : shiftV .shl .u64 (shiftV .shr .u64 (x0 : Int) (IntKind.u64.wrap (Vc.bits .and .i64 (imax i 0) 63)).toNat) (IntKind.u64.wrap (Vc.bits .and .i64 (imax i 0) 63)).toNat = (((x0 >>> (I.toNat % 64)) <<< (I.toNat % 64) % 2 ^ 64 : Nat) : Int) := by
      rw [hw0, eI, shr_u64 _ (by omega), shl_u64 _ (by omega)]
    refine LoopC_intro (α := Int × Nat) (fun q => [(0, .pointer (some ⟨b, 0, none⟩)), (5, .int .i64 q.1), (6, .int .u64 (q.2 : Int))])
      (fun m q w2 => IsBitsW w2 b r n ws ∧ Tab64 w2 ∧ Fr No w w2 ∧ 0 ≤ q.1 ∧ q.1 < ws.length ∧ I < 64 * (q.1 + 1) ∧ q.2 < 2 ^ 64 ∧ (∀ j : Nat, j < 64 → q.2.testBit j = (decide (I ≤ 64 * q.1 + j) && S (64 * q.1.toNat + j))) ∧ (∀ p : Nat, I ≤ p → (p : Int) < 64 * q.1 → S p = false) ∧ m = (ws.length - q.1).toNat)
      (ws.length - I / 64 : Int).toNat (I / 64, (x0 >>> (I.toNat % 64)) <<< (I.toNat % 64) % 2 ^ 64) ⟨rfl, look_int rfl (by rw [shr6, eI]), look_int rfl ev, trivial⟩
      ⟨h, hT, Fr.refl _ _, by show 0 ≤ I / 64; omega, by show I / 64 < (ws.length : Int); omega, by show I < 64 * (I / 64 + 1); omega, shlN_lt _ _, fun j hj => ?_, fun p h1 h2 => ?_, rfl⟩ (fun m q w2 hJ => Kp ?_)
    · show ((x0 >>> (I.toNat % 64)) <<< (I.toNat % 64) % 2 ^ 64).testBit j = (decide (I ≤ 64 * (I / 64) + j) && S (64 * (I / 64).toNat + j))
      rw [bit_shift hx02, mw _ _ hx0 j hj, show (I / 64).toNat = I.toNat / 64 by omega]
      congr 1
      exact decide_eq_decide.2 ⟨fun h => by omega, fun h => by omega⟩
    · have h2 : (p : Int) < 64 * (I / 64) := h2
      omega
    · obtain ⟨k, x⟩ := q
      obtain ⟨h2, hT2, f2, k0, k1, kI, hx, hb, hno, hm⟩ := hJ
      have kI : I < 64 * (k + 1) := kI
      have k0 : 0 ≤ k := k0
      have k1 : k < (ws.length : Int) := k1
      have hx : x < 2 ^ 64 := hx
      have hb : ∀ j : Nat, j < 64 → x.testBit j = (decide (I ≤ 64 * k + j) && S (64 * k.toNat + j)) := hb
      have hno : ∀ p : Nat, I ≤ p → (p : Int) < 64 * k → S p = false := hno
      have hm : m = (ws.length - k).toNat := hm
      refine Br_ndec (fun g0 => ?_) (fun g0 => ?_)
      · have g0 : ¬ (x : Int) = 0 := g0
        have hz : x ≠ 0 := by omega
        obtain ⟨c1, c2, c3⟩ := ctz_low hz hx
        refine Sd_intro (by omega) ?_
        refine CallC_intro (tz_spec (x : Int) x w2 rfl hz hx hT2) (fun v w3 ⟨hv, f3⟩ => ?_)
        subst hv
        rw [hb _ c1, Bool.and_eq_true, decide_eq_true_eq] at c2
        refine ⟨⟨64 * k + (Lib.ctz 64 x : Nat), ?_, .inr ⟨64 * k.toNat + Lib.ctz 64 x, by omega, by omega, c2.2, fun q h1 h2 => ?_⟩⟩, f2.no f3⟩
        · show Value.int .i64 (IntKind.i64.wrap (shiftV .shl .i64 k (6 : Int).toNat + ((Lib.ctz 64 x : Nat) : Int))) = _
          rw [shl6 (by omega) (by omega), wrap_i64 (by omega) (by omega), Int.mul_comm]
        · by_cases hq : (q : Int) < 64 * k
          · exact hno q (by omega) hq
          · have := c3 (q - 64 * k.toNat) (by omega)
            rw [hb _ (by omega), show 64 * k.toNat + (q - 64 * k.toNat) = q by omega, Bool.and_eq_false_iff, decide_eq_false_iff_not] at this
            rcases this with this | this
            · omega
            · exact this
      · have g0 : (x : Int) = 0 := g0
        have hz : x = 0 := by omega
        subst hz
        have hno2 : ∀ p : Nat, I ≤ p → (p : Int) < 64 * (k + 1) → S p = false := by
          intro p h1 h2
          by_cases hp : (p : Int) < 64 * k
          · exact hno p h1 hp
          · have := hb (p - 64 * k.toNat) (by omega)
            rw [Nat.zero_testBit, show 64 * k.toNat + (p - 64 * k.toNat) = p by omega, decide_eq_true (by omega), Bool.true_and] at this
            exact this.symm
        have ek : IntKind.i64.wrap (k + 1) = k + 1 := wrap_i64 (by omega) (by omega)
        refine LdC_blk h2.tab rfl ?_
        refine Br_dec (fun g1 => ?_) (fun g1 => ?_)
        · have g1 : IntKind.i64.wrap (k + 1) = (ws.length : Int) := g1
          rw [ek] at g1
          refine ⟨⟨-1, rfl, .inl ⟨rfl, fun p hp => ?_⟩⟩, f2⟩
          cases hs : S p with
          | false => rfl
          | true =>
            have := h.hi p ((he p).trans hs)
            rw [hno2 p (by omega) (by omega)] at hs
            cases hs
        · have g1 : ¬ IntKind.i64.wrap (k + 1) = (ws.length : Int) := g1
          rw [ek] at g1
          have hl1 : k.toNat + 1 < ws.length := by omega
          have hx1 := List.getElem?_eq_getElem hl1
          generalize ws[k.toNat + 1] = x1 at hx1
          refine LdC_blk h2.tab rfl ?_
          refine Sd_intro (show 0 ≤ IntKind.i64.wrap (k + 1) ∧ IntKind.i64.wrap (k + 1) < (ws.length : Int) by rw [ek]; omega) ?_
          refine LdC_idx (v := .int .u64 (x1 : Int)) h2.row (by
            show (u64s ws)[0 + (IntKind.i64.wrap (k + 1)).toNat * 1]? = _
            rw [ek, Nat.zero_add, Nat.mul_one, show (k + 1).toNat = k.toNat + 1 by omega]
            exact u64s_get? hx1) ?_
          refine ⟨(ws.length - (k + 1)).toNat, _, by omega, ?_, (k + 1, x1), rfl, h2, hT2, f2, (show 0 ≤ k + 1 by omega), (show k + 1 < (ws.length : Int) by omega), (show I < 64 * (k + 1 + 1) by omega), h.lt _ _ hx1, fun j hj => ?_, hno2, rfl⟩
          · exact ⟨rfl, look_int rfl ek, rfl, trivial⟩
          · show x1.testBit j = (decide (I ≤ 64 * (k + 1) + j) && S (64 * (k + 1).toNat + j))
            rw [mw _ _ hx1 j hj, show (k + 1).toNat = k.toNat + 1 by omega]
            rw [decide_eq_true (by omega)]; rfl
end Go.Proofs.YtilhoimokegpjaaDoor
