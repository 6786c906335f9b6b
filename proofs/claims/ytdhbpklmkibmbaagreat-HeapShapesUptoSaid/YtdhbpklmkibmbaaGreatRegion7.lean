/- Layer 7 (region): New of any geometry. -/
import Derived.Test.YtdhbpklmkibmbaaGreatRegion4
namespace Go.Proofs.YtdhbpklmkibmbaaGreat
open Go.Vc

def zeros7 (n : Nat) : List R := List.replicate n (0, 0, 0)
theorem zeros7_flat (n : Nat) : zerosR (n * 3) [.int .i64 0, .int .i32 0, .int .i32 0] = flat (zeros7 n) := by
  apply List.ext_getElem?
  intro k
  rcases Nat.lt_or_ge k (n * 3) with hk | hk
  · have hx : (zeros7 n)[k / 3]? = some (0, 0, 0) := by unfold zeros7; rw [List.getElem?_replicate, if_pos (by omega)]
    have hf := flat_get hx
    unfold zerosR
    rw [List.getElem?_map, List.getElem?_range hk, Option.map_some]
    have h3 : k % 3 = 0 ∨ k % 3 = 1 ∨ k % 3 = 2 := by omega
    have es : (([.int .i64 0, .int .i32 0, .int .i32 0] : List Value).toArray).size = 3 := rfl
    rw [es]
    rcases h3 with h | h | h
    · rw [h, show k = 3 * (k / 3) by omega, hf.1]; rfl
    · rw [h, show k = 3 * (k / 3) + 1 by omega, hf.2.1]; rfl
    · rw [h, show k = 3 * (k / 3) + 2 by omega, hf.2.2]; rfl
  · rw [List.getElem?_eq_none (by unfold zerosR; simp; omega), List.getElem?_eq_none (by rw [flat_len]; unfold zeros7; rw [List.length_replicate]; omega)]
theorem region_New_gen (a0 a1 a2 a3 a4 a5 : Int) (w : World) (h3 : 1 ≤ a3) (h3' : a3 ≤ 65536) (h1 : 1 ≤ a1) (hq : a1 ≤ 4194304 / a3) (h0 : a0 = a3 * a1) (h0' : a0 ≤ 4194304) :
    CallC Pr f_region_New [.agg #[.int .i64 a0, .int .i64 a1, .int .i64 a2, .int .i64 a3, .int .i64 a4, .int .i64 a5]] w (fun v w' => ∃ b r, v = .tuple #[.pointer (some ⟨b, 0, none⟩), .int .i64 0] ∧ IsReg w' b r a1 (zeros7 a3.toNat) ∧ Fr No w w' ∧ w.heap.size ≤ b ∧ w.heap.size ≤ r) := by
  have b0 : 0 ≤ a0 := by rw [h0]; exact Int.mul_nonneg (by omega) (by omega)
  have e1 : IntKind.i64.wrap (Int.tdiv 4194304 a3) = 4194304 / a3 := by
    have := Int.ediv_nonneg (a := 4194304) (b := a3) (by omega) (by omega)
    have := Int.ediv_le_self (a := 4194304) a3 (by omega)
    rw [tdiv_eq (by omega), wrap_i64 (by omega) (by omega)]
  have e3 : IntKind.i64.wrap (a3 * a1) = a0 := by rw [← h0]; exact wrap_i64 (by omega) (by omega)
  have el : ((zeros7 a3.toNat).length : Int) = a3 := by unfold zeros7; rw [List.length_replicate]; omega
  refine call_sound T_ok fun_region_New rfl (by kernel_rfl) rfl (Kp ?_)
  refine NewC_blk (fun b w1 hb hb1 f1 _ => ?_)
  refine AnyC_lex T_ok mixed (by kernel_rfl) (by kernel_rfl) ?_
  refine LdS_blk hb1 rfl ?_
  refine Br_df (show ¬ a3 < 1 by omega) ?_
  refine LdS_blk hb1 rfl ?_
  refine Br_df (show ¬ a3 > 65536 by omega) ?_
  refine LdS_blk hb1 rfl ?_
  refine Br_df (show ¬ a1 < 1 by omega) ?_
  refine LdS_blk hb1 rfl ?_
  refine LdS_blk hb1 rfl ?_
  refine Sd_intro (by omega) ?_
  refine Br_df (show ¬ a1 > IntKind.i64.wrap (Int.tdiv 4194304 a3) by omega) ?_
  refine LdS_blk hb1 rfl ?_
  refine LdS_blk hb1 rfl ?_
  refine LdS_blk hb1 rfl ?_
  refine Br_nf e3.symm ?_
  refine AnyC_ord [0,1,2,3,1004,5,1006,7,8] T_ok mixed (by kernel_rfl) (by kernel_rfl) ?_
  refine LdS_blk hb1 rfl ?_
  refine LdS_blk hb1 rfl ?_
  refine ⟨?_, trivial⟩
  refine MkN T_ok (n := a3) rfl rfl (by omega) (by omega) (show (16 : Int) * a3 ≤ _ by omega) (show a3.toNat * 3 ≠ 0 by omega) (fun r w2 hr h2' f2 s2 => ?_)
  have f1' : Fr No w w2 := (f1.no (Fr.drew w1)).no ((Fr.drew _).no f2)
  refine Sd_intro (((Fr.drew w1).no ((Fr.drew _).no f2)).old) ?_
  refine ⟨?_, trivial⟩
  refine NewC_blk (fun b3 w3 hb3 h3' f3 s3 => ?_)
  refine Sd_intro ((((Fr.drew w1).no ((Fr.drew _).no f2)).no f3).old) ?_
  have hr' : r = w1.heap.size := hr
  have hs := f1.size
  have h2' : Blk w2 r t_region_one (zerosR (a3.toNat * 3) [.int .i64 0, .int .i32 0, .int .i32 0]) := h2'
  rw [zeros7_flat] at h2'
  have en : (zeros7 a3.toNat).length = a3.toNat := by unfold zeros7; rw [List.length_replicate]
  refine ⟨b3, r, rfl, ⟨by rw [en]; exact h3', h2'.keep f3 id, h1, by rw [el, ← h0]; exact h0', ?_⟩, f1'.no f3, by omega, by omega⟩
  intro x hx
  have := (List.mem_replicate.1 hx).2
  subst this
  exact ⟨Int.le_refl _, (show (0 : Int) ≤ a1 by omega), Int.le_refl _, (show (0 : Int) ≤ a1 by omega)⟩
end Go.Proofs.YtdhbpklmkibmbaaGreat
