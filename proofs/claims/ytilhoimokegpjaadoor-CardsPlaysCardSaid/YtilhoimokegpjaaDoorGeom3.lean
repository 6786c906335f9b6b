/- Layer 2 (geom): New and what a geometry tells. -/
import Derived.Test.YtilhoimokegpjaaDoorGeom2
namespace Go.Proofs.YtilhoimokegpjaaDoor
open Go.Vc

def P (c : Cfg) : Int := 2 ^ c.c0.toNat
def Q (c : Cfg) : Int := 2 ^ c.c2.toNat
def geoL (a0 a1 a2 a3 a4 a5 : Int) : List Value := [.int .i64 a0, .int .i64 a1, .int .i64 a2, .int .i64 a3, .int .i64 a4, .int .i64 a5]
def geoV (a0 a1 a2 a3 a4 a5 : Int) : Value := .agg (geoL a0 a1 a2 a3 a4 a5).toArray
def geoOf (c : Cfg) : Value := geoV (c.c1 * P c) (P c) (Q c) c.c1 (c.c1 * P c / Q c) (min 1048576 (c.c1 * P c - P c))
theorem Valid.cs {c : Cfg} (h : Valid c) : 3 ≤ c.c2 ∧ c.c2 ≤ c.c0 := h.ls 0 (c.c2, 3, c.c0) rfl
theorem P_le {c : Cfg} (h : Valid c) : 64 ≤ P c ∧ P c ≤ 1048576 ∧ 8 ≤ Q c ∧ Q c ≤ P c ∧ 2 * P c ≤ c.c1 * P c ∧ c.c1 * P c ≤ 4194304 := by
  have hs := h.s0
  have hs1 := h.s1
  have hc := h.cs
  have h1 : (2 : Int) ^ 6 ≤ 2 ^ c.c0.toNat := pow_le (by omega)
  have h2 : (2 : Int) ^ c.c0.toNat ≤ 2 ^ 20 := pow_le (by omega)
  have h3 : (2 : Int) ^ 3 ≤ 2 ^ c.c2.toNat := pow_le (by omega)
  have h4 : (2 : Int) ^ c.c2.toNat ≤ 2 ^ c.c0.toNat := pow_le (by omega)
  have h5 := h.r2
  have e6 : (2 : Int) ^ 6 = 64 := by decide
  have e20 : (2 : Int) ^ 20 = 1048576 := by decide
  have e3 : (2 : Int) ^ 3 = 8 := by decide
  unfold P Q
  generalize (2 : Int) ^ c.c0.toNat = p at *
  have h6 := Int.mul_le_mul_of_nonneg_right h5 (show 0 ≤ p by omega)
  have h7 := Int.ediv_mul_le 4194304 (show p ≠ 0 by omega)
  have h8 := Int.mul_le_mul_of_nonneg_right h.r0 (show 0 ≤ p by omega)
  omega
end Go.Proofs.YtilhoimokegpjaaDoor
