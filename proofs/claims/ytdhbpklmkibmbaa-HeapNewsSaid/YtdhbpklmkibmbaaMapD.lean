/- maps.DeleteFunc. -/
import Derived.Test.YtdhbpklmkibmbaaRem5
namespace Go.Proofs.Ytdhbpklmkibmbaa
open Go.Vc

theorem iter_nodupD {κ : Type} {kv : κ → Value} {w : World} {b r : Nat} {m left : List (κ × Value)} {cur : Option (κ × Value)} (h : IterG kv w b r m left cur) : (left.map (·.1)).Nodup := by
  obtain ⟨_, es, clock, since, seen, c0, h1, h2, h3, h4, h5, h6, h7, h8, h9, hs, _⟩ := h
  exact (hs.map _).nodup h3
theorem len_delD {l : List ((Int × Int) × Value)} {x : (Int × Int) × Value} (hx : x ∈ l) : (delM l x.1).length < l.length := by
  unfold delM
  exact List.length_filter_lt_length_iff_exists.2 ⟨x, hx, by simp⟩
theorem filter_del {m : List ((Int × Int) × Value)} {P : Int × Int → Bool} {k : Int × Int} (h : P k = true) : (delM m k).filter (fun x => !P x.1) = m.filter (fun x => !P x.1) := by
  unfold delM
  rw [List.filter_filter]
  refine List.filter_congr fun x _ => ?_
  by_cases c : x.1 = k
  · rw [c, h]; simp
  · simp [c]
end Go.Proofs.Ytdhbpklmkibmbaa
