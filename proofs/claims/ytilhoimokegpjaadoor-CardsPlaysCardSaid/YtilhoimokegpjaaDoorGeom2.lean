/- Layer 2 (geom): may, New. -/
import Derived.Test.YtilhoimokegpjaaDoorGeom1
namespace Go.Proofs.YtilhoimokegpjaaDoor
open Go.Vc

structure Cfg where
  c0 : Int
  c1 : Int
  c2 : Int
  c3 : Int
  c4 : Int
  c5 : Int
  c6 : Int
  c7 : Int
  c8 : Int
  c9 : Int
  c10 : Int
  c11 : Int
  c12 : Int
  c13 : Int
def cfgL (c : Cfg) : List Value := [.int .i64 c.c0, .int .i64 c.c1, .int .i64 c.c2, .int .i64 c.c3, .int .i64 c.c4, .int .i64 c.c5, .int .i64 c.c6, .int .i64 c.c7, .int .i64 c.c8, .int .i64 c.c9, .int .i64 c.c10, .int .i64 c.c11, .int .i64 c.c12, .int .i64 c.c13]
def cfgV (c : Cfg) : Value := .agg (cfgL c).toArray
def flat3 (rs : List (Int × Int × Int)) : List Value := rs.flatMap fun x => [.int .i64 x.1, .int .i64 x.2.1, .int .i64 x.2.2]
theorem flat3_take : ∀ {rs : List (Int × Int × Int)} {k : Nat} {x : Int × Int × Int}, rs[k]? = some x → ((flat3 rs).drop (3 * k)).take 3 = [.int .i64 x.1, .int .i64 x.2.1, .int .i64 x.2.2] := by
  intro rs
  induction rs with
  | nil => intro k x h; cases h
  | cons y rs ih =>
    intro k x h
    cases k with
    | zero => simp only [List.getElem?_cons_zero, Option.some.injEq] at h; subst h; rfl
    | succ k =>
      have := ih (k := k) (x := x) (by simpa using h)
      simpa [flat3, show 3 * (k + 1) = 3 * k + 3 by omega] using this
def lims (c : Cfg) : List (Int × Int × Int) := [(c.c2, 3, c.c0), (c.c3, 1, 64), (c.c4, 1, 64), (c.c5, 0, 8), (c.c6, 0, 8), (c.c7, 1, c.c1), (c.c8, 0, 7), (c.c9, 0, 65536), (c.c10, 0, 65536), (c.c11, 0, 4194304), (c.c12, 0, 100), (c.c13, 0, 65536)]
structure Valid (c : Cfg) : Prop where
  s0 : 6 ≤ c.c0
  s1 : c.c0 ≤ 20
  r0 : 2 ≤ c.c1
  r1 : c.c1 ≤ 65536
  r2 : c.c1 ≤ 4194304 / 2 ^ c.c0.toNat
  ls : ∀ (k : Nat) (x : Int × Int × Int), (lims c)[k]? = some x → x.2.1 ≤ x.1 ∧ x.1 ≤ x.2.2
end Go.Proofs.YtilhoimokegpjaaDoor
