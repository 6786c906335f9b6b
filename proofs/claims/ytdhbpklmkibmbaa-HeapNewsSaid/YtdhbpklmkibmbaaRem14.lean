/- Layer 11 (remset): Way and Has, in the sets' own words. -/
import Derived.Test.YtdhbpklmkibmbaaRem13
namespace Go.Proofs.Ytdhbpklmkibmbaa
open Go.Vc

def wayA (n : Int) (A : Abs) (hm s : Int) : Int := if 0 ≤ hm ∧ hm < n then (match A (hm, s) with
  | .co => 3
  | .fi _ => 2
  | .sp l => if l = [] then 0 else 1) else 0
def hasS (per : Int) (c : Int) : Src → Bool
  | .co => true
  | .fi S => S (c % per).toNat
  | .sp l => decide (c ∈ l)
def hasA (n per : Int) (A : Abs) (hm c : Int) : Bool := if 0 ≤ hm ∧ hm < n ∧ 0 ≤ c ∧ c < n * per then hasS per c (A (hm, c / per)) else false
theorem sp_none {sp : List SpE} {k : Int × Int} (h : k ∉ sp.map (·.k)) : spGet sp k = none := by
  cases hh : spGet sp k with
  | none => rfl
  | some o =>
    obtain ⟨ho, hk', _⟩ := spGet_some hh
    exact absurd (List.mem_map.2 ⟨o, ho, hk'⟩) h
end Go.Proofs.Ytdhbpklmkibmbaa
