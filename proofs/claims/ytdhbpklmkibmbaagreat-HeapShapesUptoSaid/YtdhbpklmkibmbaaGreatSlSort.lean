/- The library's sort of whole numbers. -/
import Derived.Test.YtdhbpklmkibmbaaGreatVcL
import Derived.Test.YtdhbpklmkibmbaaGreatSortW
import Derived.Test.YtdhbpklmkibmbaaGreatSortLay
namespace Go.Proofs.YtdhbpklmkibmbaaGreat
open Go.Vc Go.Sort Go.Shelf

theorem Sort_spec {base : Nat} (v : Value) (l : List Int) (w : World) (own : Own w base v l) (hl : l.length ≤ 1000000) :
    CallC Pr f_slices_Sort___int_int_ [v] w (fun r w' => r = .tuple #[] ∧ Own w' base v (l.mergeSort fun x y => decide (x ≤ y)) ∧ Fr (fun k => v.ownBlock = some k) w w') := by
  rcases own_cases own with ⟨rfl, h0, _⟩ | ⟨g, cap, cur, rfl, hbg, hb, ht, hn⟩
  · have : l = [] := List.eq_nil_of_length_eq_zero h0
    subst this
    refine CallC_mk ((Any.slices_Sort_int_none sortI none 0 w).mono fun e w' ⟨he, hw⟩ => ?_)
    subst hw
    exact ⟨_, he, rfl, by simpa using own, Fr.refl _ _⟩
  · have hcl : l.length ≤ cur.length := by
      have := congrArg List.length ht
      rw [ints_len, List.length_take] at this
      omega
    have hH : Holds (Value.int .i64) w g 0 l.toArray := by
      refine holds_of _ hb ?_
      have e : (List.map (Value.int .i64) l) = ints l := rfl
      simpa [e] using ht
    have hc := Any.slices_Sort_int sortI g 0 cap l w hH hb.lt (by omega)
    refine CallC_mk (Calls.mono hc fun e w' ⟨he, n, os, hw⟩ => ⟨_, he, rfl, ?_, ?_⟩)
    · have h2 : (l.mergeSort fun x y => decide (x ≤ y)).length = l.length := List.length_mergeSort _
      have hB : Blk w' g t_int (ints (l.mergeSort fun x y => decide (x ≤ y)) ++ cur.drop l.length) := by
        have := putRow_blk (Value.int .i64) (d := (l.mergeSort fun x y => decide (x ≤ y)).toArray) (n := n) (os := os) hb (by simpa [h2] using hcl)
        rw [List.size_toArray, h2] at this
        rw [hw]; exact this
      unfold Own
      rw [h2]
      refine own_over own hb hB ?_ (Nat.le_refl _) ?_
      · rw [List.length_append, ints_len, h2, List.length_drop]; omega
      · rw [List.take_append_of_le_length (by rw [ints_len, h2]; omega), List.take_of_length_le (by rw [ints_len, h2]; omega)]
    · rw [hw]
      exact (putRow_fr _).weak (fun k _ e => by rw [e]; rfl)
end Go.Proofs.YtdhbpklmkibmbaaGreat
