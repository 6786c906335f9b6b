/- Layer 4 (head): Pack of objects; layer 5: Make. -/
import Derived.Test.YthmkimnpdnmahaaBitsA
import Derived.Test.YthmkimnpdnmahaaArena
namespace Go.Proofs.Ythmkimnpdnmahaa
open Go.Vc

/-- A header's word. -/
def headW (size ptrs age : Int) : Int := 1 + 4 * size + 8388608 * ptrs + 17592186044416 * age
def hdL (k size ptrs age to : Int) : List Value := [.int .i64 k, .int .i64 size, .int .i64 ptrs, .int .i64 age, .int .i64 to]
theorem or_word {size ptrs age : Nat} (hs : size < 2 ^ 21) (hp : ptrs < 2 ^ 21) : (1 ||| (ptrs * 2 ^ 23 ||| age * 2 ^ 44)) ||| size * 2 ^ 2 = 1 + 4 * size + 8388608 * ptrs + 17592186044416 * age := by
  have a1 := Nat.two_pow_add_eq_or_of_lt (show ptrs * 2 ^ 23 < 2 ^ 44 by omega) age
  have h1 : ptrs * 2 ^ 23 ||| age * 2 ^ 44 = 2 ^ 23 * (2 ^ 21 * age + ptrs) := by
    rw [Nat.or_comm, Nat.mul_comm age, ← a1]; omega
  have a2 := Nat.two_pow_add_eq_or_of_lt (show 1 + 4 * size < 2 ^ 23 by omega) (2 ^ 21 * age + ptrs)
  have a3 := Nat.two_pow_add_eq_or_of_lt (show 1 < 2 ^ 2 by decide) size
  have h3 : 1 ||| size * 2 ^ 2 = 1 + 4 * size := by rw [Nat.or_comm, Nat.mul_comm size, ← a3]; omega
  rw [h1, Nat.or_comm 1, Nat.or_assoc, h3, ← a2]
  omega
theorem shl_u64 {x : Nat} {n : Nat} (h : n ≤ 64) (hx : x * 2 ^ n < 2 ^ 64) : shiftV .shl .u64 (x : Int) n = ((x * 2 ^ n : Nat) : Int) := by
  unfold shiftV
  rw [show IntKind.u64.bits = 64 from rfl, Nat.min_eq_left h]
  have : ((x : Int) * 2 ^ n) = ((x * 2 ^ n : Nat) : Int) := by push_cast; rfl
  show IntKind.u64.wrap ((x : Int) * 2 ^ n) = _
  rw [this, wrap_u64 (by omega) (by omega)]
theorem bd_ptrs {p : Nat} (h : p < 2 ^ 21) : p * 2 ^ 23 < 2 ^ 64 := by omega
theorem bd_age {p : Nat} (h : p < 8) : p * 2 ^ 44 < 2 ^ 64 := by omega
theorem bd_size {p : Nat} (h : p < 2 ^ 21) : p * 2 ^ 2 < 2 ^ 64 := by omega
theorem bd_one : (1 : Nat) < 2 ^ 64 := by decide
theorem headW_cast (s p g : Nat) : ((1 + 4 * s + 8388608 * p + 17592186044416 * g : Nat) : Int) = headW s p g := by unfold headW; omega
theorem Pack_obj (size ptrs age : Int) (w : World) (h1 : 1 ≤ size) (h2 : size ≤ 1048576) (h3 : 0 ≤ ptrs) (h4 : ptrs < size) (h5 : 0 ≤ age) (h6 : age < 8) :
    CallC Pr f_head_Pack [.agg (hdL 1 size ptrs age 0).toArray] w (fun v w' => v = .tuple #[.int .u64 (headW size ptrs age), .int .i64 0] ∧ Fr No w w') := by
  refine call_sound T_ok fun_head_Pack rfl (by kernel_rfl) rfl (Kp ?_)
  refine NewC_blk (fun p1 w1 hp1 b1 f1 s1 => ?_)
  have b1 : Blk w1 p1 t_api_Header (hdL 1 size ptrs age 0) := b1
  refine LdC_blk b1 rfl ?_
  refine LdN_blk (vs := hdL 1 size ptrs age 0) b1 rfl rfl ?_
  refine NewC_blk (fun p2 w2 hp2 b2 f2 s2 => ?_)
  have n12 : p1 ≠ p2 := by omega
  refine StN_blk b2 rfl (Nat.le_of_ble_eq_true rfl) (fun w3 b3 f3 s3 => ?_)
  have b3 : Blk w3 p2 t_api_Header (hdL 1 size ptrs age 0) := b3
  refine StC_blk b3 rfl rfl (fun w4 b4 f4 s4 => ?_)
  have b4 : Blk w4 p2 t_api_Header (hdL 0 size ptrs age 0) := b4
  refine StC_blk b4 rfl rfl (fun w5 b5 f5 s5 => ?_)
  have f25 := (f3.same f4).same f5
  have b1 := (b1.keep f2 id).keep f25 n12
  have F : Fr No w w5 := (f1.no f2).new f25 (fun _ _ e => e) (fun k e => by have e : k = p2 := e; omega)
  refine LdC_blk b1 rfl ?_
  refine Br_dt (show size ≥ 1 by omega) ?_
  refine LdC_blk b1 rfl ?_
  refine LdC_blk b1 rfl ?_
  refine Br_dt (show size ≤ 1048576 by omega) ?_
  refine LdC_blk b1 rfl ?_
  refine Br_dt (show ptrs ≥ 0 by omega) ?_
  refine LdC_blk b1 rfl ?_
  refine LdC_blk b1 rfl ?_
  refine Br_dt h4 ?_
  refine LdC_blk b1 rfl ?_
  refine Br_dt (show age ≥ 0 by omega) ?_
  refine LdC_blk b1 rfl ?_
  refine Br_dt h6 ?_
  refine LdC_blk b1 rfl ?_
  refine LdC_blk b1 rfl ?_
  refine Sd_intro (by decide) ?_
  refine LdC_blk b1 rfl ?_
  refine Sd_intro (by decide) ?_
  refine LdC_blk b1 rfl ?_
  refine Sd_intro (by decide) ?_
  refine ⟨?_, F⟩
  show Value.tuple #[.int .u64 (Vc.bits .or .u64 (Vc.bits .or .u64 (IntKind.u64.wrap 1) (Vc.bits .or .u64 (shiftV .shl .u64 (IntKind.u64.wrap ptrs) (Int.toNat 23)) (shiftV .shl .u64 (IntKind.u64.wrap age) (Int.toNat 44)))) (shiftV .shl .u64 (IntKind.u64.wrap size) (Int.toNat 2))), .int .i64 0] = _
  obtain ⟨s, rfl⟩ := Int.eq_ofNat_of_zero_le (show 0 ≤ size by omega)
  obtain ⟨p, rfl⟩ := Int.eq_ofNat_of_zero_le h3
  obtain ⟨g, rfl⟩ := Int.eq_ofNat_of_zero_le h5
  have hs : s < 2 ^ 21 := by omega
  have hp : p < 2 ^ 21 := by omega
  have hg : g < 8 := by omega
  have bp := bd_ptrs hp
  have bg := bd_age hg
  have bs := bd_size hs
  rw [show Int.toNat 23 = 23 from rfl, show Int.toNat 44 = 44 from rfl, show Int.toNat 2 = 2 from rfl, show IntKind.u64.wrap 1 = ((1 : Nat) : Int) from by decide, wrap_u64 (n := (p : Int)) (by omega) (by omega), wrap_u64 (n := (g : Int)) (by omega) (by omega), wrap_u64 (n := (s : Int)) (by omega) (by omega),
    shl_u64 (by decide) bp, shl_u64 (by decide) bg, shl_u64 (by decide) bs, or_u64 bp bg, or_u64 bd_one (Nat.or_lt_two_pow bp bg), or_u64 (Nat.or_lt_two_pow bd_one (Nat.or_lt_two_pow bp bg)) bs, or_word hs hp]
  rw [headW_cast]
/-- An object is made. -/
theorem Make_spec {b r : Nat} {acc : Int} {ws : List Int} (pos size ptrs : Int) (w : World) (h : IsArena w b r acc ws) (h0 : 0 ≤ pos) (h1 : 1 ≤ size) (h2 : size ≤ 1048576) (h3 : 0 ≤ ptrs) (h4 : ptrs < size) (hl : pos + size ≤ (ws.length : Int)) :
    CallC Pr f_parse_Make [.pointer (some ⟨b, 0, none⟩), .int .i64 pos, .int .i64 size, .int .i64 ptrs] w
      (fun v w' => v = .int .i64 0 ∧ IsArena w' b r (IntKind.i64.wrap (acc + 1)) ((zeroed ws pos.toNat size.toNat).set pos.toNat (headW size ptrs 0)) ∧ Fr (fun k => k = b ∨ k = r) w w') := by
  refine call_sound T_ok fun_parse_Make rfl (by kernel_rfl) rfl (Kp ?_)
  refine CallC_intro (Pack_obj size ptrs 0 w h1 h2 h3 h4 (by decide) (by decide)) (fun v w1 ⟨hv, f1⟩ => ?_)
  subst hv
  have hA := h.keep f1 id id
  refine CallC_intro (Zero_in pos size w1 hA h0 h1 hl) (fun v w2 ⟨hv, hA2, f2⟩ => ?_)
  subst hv
  refine CallC_intro (Store_in pos (headW size ptrs 0) w2 hA2 h0 (by rw [zeroed_len]; omega)) (fun v w3 ⟨hv, hA3, f3⟩ => ?_)
  subst hv
  exact ⟨rfl, hA3, (f1.noL f2).trans f3 (fun _ _ e => .inr e) (fun _ _ e => e)⟩
end Go.Proofs.Ythmkimnpdnmahaa
