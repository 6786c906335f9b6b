/- Layer 2 (geom): places. -/
import Derived.Test.YtilhoimokegpjaaDoorGeom3
namespace Go.Proofs.YtilhoimokegpjaaDoor
open Go.Vc

theorem shl_small {x : Int} {k : Nat} (hk : k ≤ 40) (h0 : 0 ≤ x * 2 ^ k) (h1 : x * 2 ^ k ≤ 4194304) : shiftV .shl .i64 x ((k : Int)).toNat = x * 2 ^ k := by
  rw [Int.toNat_natCast, shl_i64 _ (by omega), wrap_i64 (by omega) (by omega)]
theorem shr_small {x : Int} {k : Nat} (hk : k ≤ 40) : shiftV .shr .i64 x ((k : Int)).toNat = x / 2 ^ k := by
  rw [Int.toNat_natCast, shr_i64 _ (by omega)]
theorem Region_spec (a0 a2 a3 a4 a5 n : Int) (k : Nat) (hk : k ≤ 20) (w : World) :
    CallC Pr f_geom_Geom_Region [geoV a0 (2 ^ k) a2 a3 a4 a5, .int .i64 n] w (fun v w' => v = .int .i64 (if n < 0 ∨ a0 ≤ n then -1 else n / 2 ^ k) ∧ Fr No w w') := by
  refine call_sound T_ok fun_geom_Geom_Region rfl (by kernel_rfl) rfl ?_
  refine NewC_blk (fun b w1 hb h2 f1 _ => ?_)
  refine Br_dec (fun g => ?_) (fun g => ?_)
  · exact ⟨by rw [if_pos (.inl g)]; rfl, f1⟩
  · have g : ¬ n < 0 := g
    refine LdC_blk h2 rfl ?_
    refine Br_dec (fun g2 => ?_) (fun g2 => ?_)
    · have g2 : n ≥ a0 := g2
      exact ⟨by rw [if_pos (.inr (by omega))]; rfl, f1⟩
    · have g2 : ¬ n ≥ a0 := g2
      refine LdC_blk h2 rfl ?_
      refine CallC_intro (log_spec k (by omega) w1) (fun v w2 ⟨hv, f2⟩ => ?_)
      subst hv
      refine Sd_intro (by omega) ?_
      refine ⟨?_, f1.no f2⟩
      rw [if_neg (by omega)]
      show Value.int .i64 (shiftV .shr .i64 n ((k : Int)).toNat) = _
      rw [shr_small (by omega)]
end Go.Proofs.YtilhoimokegpjaaDoor
