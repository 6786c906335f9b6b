/- Rows of bools; two lists of numbers held against one another (gleanerref01.Same). -/
import Derived.Test.YtdhbpklmkibmbaaGreatVcL
namespace Go.Proofs.YtdhbpklmkibmbaaGreat
open Go.Vc
def bools (S : Nat → Bool) (n : Nat) : List Value := (List.range n).map fun i => .bool (S i)
def upd (S : Nat → Bool) (k : Nat) (on : Bool) : Nat → Bool := fun j => if j = k then on else S j
theorem bools_get {S : Nat → Bool} {n k : Nat} (h : k < n) : (bools S n)[k]? = some (.bool (S k)) := by simp [bools, h]
theorem bools_len (S : Nat → Bool) (n : Nat) : (bools S n).length = n := by simp [bools]
theorem bools_congr {S S' : Nat → Bool} {n : Nat} (h : ∀ j, j < n → S j = S' j) : bools S n = bools S' n := by
  unfold bools
  refine List.map_congr_left fun i hi => ?_
  rw [h i (List.mem_range.1 hi)]
theorem bools_false {n : Nat} : bools (fun _ => false) n = List.replicate n (.bool false) := by
  apply List.ext_getElem
  · simp [bools]
  · intro i h1 h2; simp [bools]
theorem bools_set (S : Nat → Bool) (n k : Nat) (on : Bool) : (bools S n).set k (.bool on) = bools (upd S k on) n := by
  apply List.ext_getElem?
  intro i
  rw [List.getElem?_set]
  unfold bools upd
  by_cases h : k = i
  · subst h
    by_cases hk : k < n
    · simp [hk]
    · simp [hk]
  · rw [if_neg h]
    by_cases hi : i < n
    · simp [hi, Ne.symm h]
    · simp [hi]
theorem Ints.cell {w : World} {a : Option Addr} {n c : Nat} {l : List Int} (h : Ints w (.slice a n c) l) {i : Nat} (hi : i < l.length) : ∃ x, a = some x ∧ w.cell? (x.add i) = some (.int .i64 l[i]) := by
  obtain ⟨a', c', he, h⟩ := h
  injection he with e1 e2 e3
  subst e1
  rcases h with h | ⟨x, rfl, h⟩
  · subst h; cases hi
  · exact ⟨x, rfl, h i _ (List.getElem?_eq_getElem hi)⟩
theorem Same_spec (v1 v2 : Value) (l1 l2 : List Int) (w : World) (h1 : Ints w v1 l1) (h2 : Ints w v2 l2) (hb : (l1.length : Int) ≤ 4611686018427387904) :
    CallC Pr f_gleanerref01_Same [v1, v2] w (fun v w' => v = .bool (decide (l1 = l2)) ∧ Fr No w w') := by
  obtain ⟨a1, c1, rfl, _⟩ := id h1
  obtain ⟨a2, c2, rfl, _⟩ := id h2
  refine call_sound T_ok fun_gleanerref01_Same rfl (by kernel_rfl) rfl (Kp ?_)
  refine Br_ndec (fun g => ?_) (fun g => ?_)
  · have g : ¬ (l1.length : Int) = (l2.length : Int) := g
    refine ⟨?_, Fr.refl _ _⟩
    rw [decide_eq_false (fun e => g (by rw [e]))]; rfl
  · have g : (l1.length : Int) = (l2.length : Int) := g
    have gl : l1.length = l2.length := by omega
    refine LoopC_intro (α := Int) (fun k => [(0, .slice a1 l1.length c1), (1, .slice a2 l2.length c2), (5, .int .i64 k)])
      (fun m k w2 => Fr No w w2 ∧ 0 ≤ k ∧ k ≤ l1.length ∧ (∀ i : Nat, (i : Int) < k → l1[i]? = l2[i]?) ∧ m = (l1.length - k).toNat)
      (l1.length - 0 : Int).toNat 0 ⟨rfl, rfl, rfl, trivial⟩ ⟨Fr.refl _ _, Int.le_refl _, (show (0 : Int) ≤ l1.length by omega), fun i hi => by have hi : (i : Int) < 0 := hi; omega, rfl⟩ (fun m k w2 hJ => Kp ?_)
    obtain ⟨f2, k0, k1, hk, hm⟩ := hJ
    have k0 : 0 ≤ k := k0
    have k1 : k ≤ l1.length := k1
    have hk : ∀ i : Nat, (i : Int) < k → l1[i]? = l2[i]? := hk
    refine Br_dec (fun g0 => ?_) (fun g0 => ?_)
    · have g0 : k < (l1.length : Int) := g0
      have hi1 : k.toNat < l1.length := by omega
      have hi2 : k.toNat < l2.length := by omega
      obtain ⟨x1, rfl, hc1⟩ := (h1.keep f2 (fun _ _ => id)).cell hi1
      obtain ⟨x2, rfl, hc2⟩ := (h2.keep f2 (fun _ _ => id)).cell hi2
      refine AnyC_lex T_ok mixed (by kernel_rfl) (by kernel_rfl) (Kp ?_)
      refine Sd_intro (show 0 ≤ k ∧ k < (l1.length : Int) by omega) ?_
      refine LdS_old (v := .int .i64 l1[k.toNat]) (by rw [Nat.mul_one]; exact hc1) ?_
      refine Sd_intro (show 0 ≤ k ∧ k < (l2.length : Int) by omega) ?_
      refine LdS_old (v := .int .i64 l2[k.toNat]) (by rw [Nat.mul_one]; exact hc2) ?_
      refine Br_ndec (fun g1 => ?_) (fun g1 => ?_)
      · have g1 : ¬ l1[k.toNat] = l2[k.toNat] := g1
        refine ⟨?_, f2.drew'⟩
        rw [decide_eq_false (fun e => g1 (by simp [e]))]; rfl
      · have g1 : l1[k.toNat] = l2[k.toNat] := g1
        refine ⟨(l1.length - (k + 1)).toNat, _, by omega, ?_, k + 1, rfl, f2.drew', (show 0 ≤ k + 1 by omega), (show k + 1 ≤ (l1.length : Int) by omega), fun i hi => ?_, rfl⟩
        · exact ⟨rfl, rfl, look_int rfl (wrap_i64 (by omega) (by omega)), trivial⟩
        · have hi : (i : Int) < k + 1 := hi
          by_cases h : (i : Int) < k
          · exact hk i h
          · have : i = k.toNat := by omega
            subst this
            rw [List.getElem?_eq_getElem hi1, List.getElem?_eq_getElem hi2, g1]
    · have g0 : ¬ k < (l1.length : Int) := g0
      refine ⟨?_, f2⟩
      have : l1 = l2 := by
        apply List.ext_getElem?
        intro i
        by_cases h : i < l1.length
        · exact hk i (by omega)
        · rw [List.getElem?_eq_none (by omega), List.getElem?_eq_none (by omega)]
      rw [decide_eq_true this]; rfl
end Go.Proofs.YtdhbpklmkibmbaaGreat
/- The library's Index and Contains at whole numbers. -/
namespace Go.Proofs.YtdhbpklmkibmbaaGreat
open Go.Vc

theorem Index_spec (v : Value) (l : List Int) (x : Int) (w : World) (h : Ints w v l) (hl : l.length ≤ 1000000) :
    CallC Pr f_slices_Index___int_int_ [v, .int .i64 x] w (fun r w' => (∃ j, r = .int .i64 j ∧ ((j = -1 ∧ x ∉ l) ∨ (0 ≤ j ∧ x ∈ l))) ∧ Fr No w w') := by
  obtain ⟨a, c, rfl, _⟩ := id h
  refine call_sound T_ok fun_slices_Index___int_int_ rfl (by kernel_rfl) rfl (Kp ?_)
  refine LoopC_intro (α := Int) (fun k => [(0, .slice a l.length c), (1, .int .i64 x), (7, .int .i64 l.length), (8, .int .i64 k)])
    (fun m k w2 => Fr No w w2 ∧ 0 ≤ k ∧ k ≤ l.length ∧ (∀ i : Nat, (i : Int) < k → l[i]? ≠ some x) ∧ m = (l.length - k).toNat)
    l.length 0 ⟨rfl, rfl, rfl, rfl, trivial⟩ ⟨Fr.refl _ _, Int.le_refl _, (show (0 : Int) ≤ l.length by omega), fun i hi => by have hi : (i : Int) < 0 := hi; omega, by omega⟩ (fun m k w2 hJ => Kp ?_)
  obtain ⟨f2, k0, k1, hk, hm⟩ := hJ
  have k0 : 0 ≤ k := k0
  have k1 : k ≤ l.length := k1
  have hk : ∀ i : Nat, (i : Int) < k → l[i]? ≠ some x := hk
  refine Br_dec (fun g0 => ?_) (fun g0 => ?_)
  · have g0 : k < (l.length : Int) := g0
    have hi : k.toNat < l.length := by omega
    obtain ⟨ad, rfl, hc⟩ := (h.keep f2 (fun _ _ => id)).cell hi
    refine Sd_intro (show 0 ≤ k ∧ k < (l.length : Int) by omega) ?_
    refine LdC_intro (v := .int .i64 l[k.toNat]) (by rw [Nat.mul_one]; exact hc) ?_
    refine Br_dec (fun g1 => ?_) (fun g1 => ?_)
    · have g1 : x = l[k.toNat] := g1
      exact ⟨⟨k, rfl, .inr ⟨k0, by rw [g1]; exact List.getElem_mem hi⟩⟩, f2⟩
    · have g1 : ¬ x = l[k.toNat] := g1
      refine ⟨(l.length - (k + 1)).toNat, _, by omega, ?_, k + 1, rfl, f2, (show 0 ≤ k + 1 by omega), (show k + 1 ≤ (l.length : Int) by omega), fun i hi2 => ?_, rfl⟩
      · exact ⟨rfl, rfl, rfl, look_int rfl (wrap_i64 (by omega) (by omega)), trivial⟩
      · have hi2 : (i : Int) < k + 1 := hi2
        by_cases e : (i : Int) < k
        · exact hk i e
        · have : i = k.toNat := by omega
          subst this
          rw [List.getElem?_eq_getElem hi]
          intro e2; injection e2 with e2; exact g1 e2.symm
  · have g0 : ¬ k < (l.length : Int) := g0
    refine ⟨⟨-1, rfl, .inl ⟨rfl, fun hm => ?_⟩⟩, f2⟩
    obtain ⟨i, hi, e⟩ := List.getElem_of_mem hm
    exact hk i (by omega) (by rw [List.getElem?_eq_getElem hi, e])
theorem Contains_spec (v : Value) (l : List Int) (x : Int) (w : World) (h : Ints w v l) (hl : l.length ≤ 1000000) :
    CallC Pr f_slices_Contains___int_int_ [v, .int .i64 x] w (fun r w' => r = .bool (decide (x ∈ l)) ∧ Fr No w w') := by
  obtain ⟨a, c, rfl, _⟩ := id h
  refine call_sound T_ok fun_slices_Contains___int_int_ rfl (by kernel_rfl) rfl (Kp ?_)
  refine CallC_intro (Index_spec _ l x w h hl) (fun r w1 ⟨⟨j, hr, hj⟩, f1⟩ => ?_)
  subst hr
  refine ⟨?_, f1⟩
  have : decide (j ≥ 0) = decide (x ∈ l) := by
    rcases hj with ⟨rfl, hn⟩ | ⟨h0, hm⟩
    · rw [decide_eq_false hn]; rfl
    · rw [decide_eq_true hm, decide_eq_true h0]
  rw [← this]; rfl
end Go.Proofs.YtdhbpklmkibmbaaGreat
