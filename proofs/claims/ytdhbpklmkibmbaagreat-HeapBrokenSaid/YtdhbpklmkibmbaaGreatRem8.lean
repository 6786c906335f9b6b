/- Layer 11 (remset): the law's first calls, and sets that aren't there. -/
import Derived.Test.YtdhbpklmkibmbaaGreatRem7
namespace Go.Proofs.YtdhbpklmkibmbaaGreat
open Go.Vc

theorem blk_map {w : World} {b t c : Nat} {cs : List Value} {es : Array MapEntry} (h : Blk w b t cs) {m : Nat} (h2 : MapAt w m es c) : b ≠ m := by
  intro e
  subst e
  unfold Blk at h
  unfold MapAt at h2
  rw [h] at h2
  injection h2 with h2
  cases h2
theorem sets_nil {w : World} {b m1 m2 m3 : Nat} {n per : Int} (h : IsSets w b m1 m2 m3 n per) (a1 : MapAt w m1 #[] 0) (a2 : MapAt w m2 #[] 0) (a3 : MapAt w m3 #[] 0) : SetsG w b m1 m2 m3 n per [] [] [] := by
  obtain ⟨n1, n2, n3⟩ := h.ne
  refine ⟨h.tab, MapG.new a1, MapG.new a2, MapG.new a3, fun e he => (by cases he), fun e he => (by cases he), List.nodup_nil, ?_, fun e he => (by cases he)⟩
  unfold restB
  simp [n1, n2, n3, blk_map h.tab a1, blk_map h.tab a2, blk_map h.tab a3]
theorem sort_is {L M : List Int} (h : L.Perm M) (hs : M.Pairwise (· ≤ ·)) : (L.mergeSort fun x y => decide (x ≤ y)) = M := by
  refine List.Perm.eq_of_pairwise (le := fun x y => x ≤ y) (fun a b _ _ h1 h2 => by omega) ?_ hs ((List.mergeSort_perm L _).trans h)
  have := List.pairwise_mergeSort (le := fun x y : Int => decide (x ≤ y)) (fun a b c h1 h2 => by simp at *; omega) (fun a b => by simp; omega) L
  exact this.imp (fun h => by simpa using h)
def from8 (c : Int) : List Int := (List.range (c - 8).toNat).map fun (i : Nat) => 8 + (i : Int)
theorem from8_snoc {c : Int} (h : 8 ≤ c) : from8 (c + 1) = from8 c ++ [c] := by
  unfold from8
  rw [show (c + 1 - 8).toNat = (c - 8).toNat + 1 by omega, List.range_succ, List.map_append]
  congr 1
  show [8 + (((c - 8).toNat : Nat) : Int)] = [c]
  rw [Int.toNat_of_nonneg (by omega)]
  congr 1; omega
theorem from8_mem' {c x : Int} (h : x ∈ from8 c) : 8 ≤ x ∧ x < c := by
  unfold from8 at h
  obtain ⟨i, hi, e⟩ := List.mem_map.1 h
  have := List.mem_range.1 hi
  subst e
  omega
theorem from8_len (c : Int) : (from8 c).length = (c - 8).toNat := by simp [from8]
theorem spGet_one {e : SpE} {k : Int × Int} (h : e.k = k) : spGet [e] k = some e := by
  unfold spGet spM
  simp [idxM, h]
theorem put_one {e e' : SpE} (h : e.k = e'.k) : putSp [e] e' = [e'] := by
  unfold putSp spM
  simp [idxM, h]
theorem ints_of_blk {w : World} {p : Nat} {l : List Int} (h : Blk w p t_int (ints l)) (n c : Nat) (hn : n = l.length) : Ints w (.slice (some ⟨p, 0, none⟩) n c) l := by
  subst hn
  refine ⟨_, _, rfl, .inr ⟨_, rfl, fun i z hi => ?_⟩⟩
  rw [add_of, Nat.zero_add]
  exact h.cell (ints_get? hi)
theorem smallSets_spec (w : World) : CallC Pr f_remset_New [.agg #[.int .i64 512, .int .i64 64, .int .i64 8, .int .i64 8, .int .i64 64, .int .i64 448]] w
      (fun v w' => ∃ b m1 m2 m3, v = .tuple #[.pointer (some ⟨b, 0, none⟩), .int .i64 0] ∧ SetsG w' b m1 m2 m3 8 8 [] [] [] ∧ Fr No w w' ∧ w.heap.size ≤ b ∧ w.heap.size ≤ m1 ∧ w.heap.size ≤ m2 ∧ w.heap.size ≤ m3) :=
  CallC_mk (Calls.mono (CallC_elim (remset_New_spec 512 64 8 8 64 448 w (by decide) (by decide) (by decide) (by decide) (by decide) (by decide) (by decide) (by decide) (by decide))) fun e w' ⟨v, he, b, m1, m2, m3, hv, hs, a1, a2, a3, f, k⟩ => ⟨v, he, b, m1, m2, m3, hv, sets_nil hs a1 a2 a3, f, k⟩)

end Go.Proofs.YtdhbpklmkibmbaaGreat
