/- The library's table, as a door seat's row lays it. -/
import Derived.Test.YtdhbpklmkibmbaaGreatDoorBitsE
import Derived.Test.YtdhbpklmkibmbaaGreatDoorRows
import Derived.WalkKit
import Derived.ProofKit
import Derived.LaidMore
import Derived.OpenShut
import Derived.Stop.Joined
namespace Go.Proofs.YtdhbpklmkibmbaaGreatDoor
open Go.ChangeShapes Go.WideShapes Go.ChangeAt Go.RowKit Go.Vc

noncomputable def laidTab : List (String × DataW Unit) := [("math/bits.deBruijn64tab", Rows.laid_math_bits_deBruijn64tab)]
theorem gTab : Tryz.prog.globalNamed "math/bits.deBruijn64tab" = some g_math_bits_deBruijn64tab := by kernel_rfl
theorem tTab : (Tryz.prog.globals[g_math_bits_deBruijn64tab]?).map (·.type) = some 304 := by kernel_rfl
theorem uTab : Tryz.prog.underlying 304 = some (.array 64 5) := by kernel_rfl
theorem uByte : Tryz.prog.underlying 5 = some (.int .u8) := by kernel_rfl
theorem cByte : Tryz.prog.cellsOf 5 = 1 := by kernel_rfl
theorem door_met (os : Os) (args : Array Value) : laidMetH Tryz.prog laidTab ((World.doorLaid Tryz.prog 2000 os).forCall (fun _ _ => 0) ⟨#[], args, []⟩).memory :=
  laidMetH_of_parts (laidMet_of_run' 8 (by kernel_rfl) (by kernel_rfl)) (by kernel_rfl)
theorem laid_eq : Rows.laid_math_bits_deBruijn64tab (H := Unit) = .agg (Lib.deBruijn64tab.map fun (n : Nat) => .lit (.int .u8 (n : Int))) := rfl
set_option maxRecDepth 100000 in
theorem tab_of_laid {W : World} (h : laidMetH Tryz.prog laidTab W) : Tab64 W := by
  rw [MakeChecks.laidMetH_plain _ _ _ (by kernel_rfl)] at h
  obtain ⟨ps, ⟨g0, t0, cs0, f0, p0, q0, hg0, ht0, hv0, hd0, _, _⟩, _, _⟩ := h
  obtain rfl := Option.some.inj (gTab.symm.trans hg0)
  obtain rfl := Option.some.inj (tTab.symm.trans ht0)
  obtain ⟨xs, m1, rfl, hx1, hlen, hn3, hel⟩ := DataW.trod_array uTab hd0
  intro j hj
  have hc := World.var?_cell hg0 hv0 j
  rw [hc]
  have h1 := hel j hj
  have hlt : j < xs.length := by omega
  rw [List.getElem?_eq_getElem hlt] at h1
  obtain ⟨k, e1, e2, _⟩ := DataW.trod_int uByte h1
  rw [cByte, Nat.mul_one] at e1
  have hcell : cs0[j]? = some (.int .u8 k) := by
    have := congrArg (fun l => l[0]?) e1
    simp only [List.getElem?_take, List.getElem?_drop, Nat.add_zero, Nat.lt_one_iff, if_true, List.getElem?_cons_zero] at this
    simpa using this
  rw [hcell]
  have hx2 : Rows.laid_math_bits_deBruijn64tab (H := Unit) = .agg (xs.map (·.1)) := (Prod.mk.inj hx1).1
  rw [laid_eq] at hx2
  injection hx2 with hx2
  have e3 := congrArg (fun l => l[j]?) hx2
  have hj2 : j < Lib.deBruijn64tab.length := hj
  simp only [List.getElem?_map, List.getElem?_eq_getElem hlt, List.getElem?_eq_getElem hj2, Option.map_some, e2] at e3
  injection e3 with e3
  injection e3 with e3
  injection e3 with _ e3
  rw [← e3]
  simp [List.getD, List.getElem?_eq_getElem hj2]
end Go.Proofs.YtdhbpklmkibmbaaGreatDoor
