/- CsetAll: the walk. -/
import Derived.Test.YtfokdnmidfmddaaCsetRef3
import Derived.Test.YtfokdnmidfmddaaCset6
namespace Go.Proofs.Ytfokdnmidfmddaa
open Go.Vc Go.Sort

theorem cells18_self (c : Int × Int) : cellsEq (candL c) (candL c) = true := by
  show ((c.1 == c.1) && ((c.2 == c.2) && true)) = true
  simp
set_option maxHeartbeats 2000000 in
theorem CsetAll_spec (vy vl : Value) (young : List Int) (l : List (Int × Int)) (b : Int) (w : World) (hy : Ints w vy young) (h : Cands w vl l) (hb : -9223372036854775808 ≤ b ∧ b ≤ 9223372036854775807) :
    CallC Pr f_gleanerlaw18_CsetAll [vy, vl, .int .i64 b] w (fun v w' => v = .bool true ∧ Fr No w w') := by
  obtain ⟨ay, cy, ey, _⟩ := id hy
  obtain ⟨al, cl, el, _⟩ := id h
  subst ey el
  refine call_sound T_ok fun_gleanerlaw18_CsetAll rfl (by kernel_rfl) rfl (Kp ?_)
  refine CallC_intro (awake18_spec w) (fun v w1 ⟨hv, f1⟩ => ?_)
  subst hv
  refine Br_dec (fun g0 => ?_) (fun g0 => ?_)
  · exact ⟨rfl, f1⟩
  have g0 : ¬ (young.length : Int) > 300 := g0
  refine Br_dec (fun g1 => ?_) (fun g1 => ?_)
  · exact ⟨rfl, f1⟩
  have g1 : ¬ (l.length : Int) > 300 := g1
  have hl : l.length ≤ 300 := by omega
  have hyl : young.length ≤ 300 := by omega
  refine CallC_intro (Choose_spec _ _ young l b w1 (hy.keep f1 (fun _ _ => id)) (h.keep f1 (fun _ _ => id)) hyl hl hb) (fun a w2 ⟨⟨l1, p1, hs1, ownA⟩, f2⟩ => ?_)
  have ownA : Own w2 w1.heap.size a (resultL young b l1) := ownA
  have rl : (resultL young b l1).length ≤ 600 := by
    have h1 := ddN_len (chosen young b l1) (chosen young b l1).length
    have e : (chosen young b l1).length = (young ++ takeB b l1).length := List.length_mergeSort _
    rw [List.length_append] at e
    have h2 := takeB_len b l1
    have h3 := p1.length_eq
    unfold resultL
    omega
  have F2 := f1.no f2
  refine CallC_intro (Next_spec _ a l (resultL young b l1) w2 (h.keep F2 (fun _ _ => id)) ownA.ints (by omega) (by omega)) (fun r3 w3 ⟨own3, f3⟩ => ?_)
  have F3 := F2.no f3
  have ownA3 := ownA.keep f3 (fun _ _ => id)
  refine CallC_intro (ref18_spec _ l w3 (h.keep F3 (fun _ _ => id)) hl) (fun r4 w4 ⟨own4, f4⟩ => ?_)
  have F4 := F3.no f4
  have ownA4 := ownA3.keep f4 (fun _ _ => id)
  refine CallC_intro (Next18_spec r4 a l (resultL young b l1) w4 own4.cands ownA4.ints hl (by omega)) (fun r5 w5 ⟨own5, f5⟩ => ?_)
  have F5 := F4.no f5
  have ownA5 := ownA4.keep f5 (fun _ _ => id)
  refine CallC_intro (ref18_spec _ l w5 (h.keep F5 (fun _ _ => id)) hl) (fun r6 w6 ⟨own6, f6⟩ => ?_)
  have F6 := F5.no f6
  refine CallC_intro (Choose18_spec _ r6 young l b w6 (hy.keep F6 (fun _ _ => id)) own6.cands hyl hl hb) (fun r7 w7 ⟨⟨L, l2, own7, hL, hLs, p2, hs2, hLm⟩, f7⟩ => ?_)
  have eL : resultL young b l1 = L := by
    refine strict_eq (result_strict _ _ _) hLs (fun x => ?_)
    rw [result_mem, hLm, takeB_keys b l1 l2 (keys_eq hs1 hs2 (p1.trans p2.symm))]
  have ownA7 := (ownA5.keep f6 (fun _ _ => id)).keep f7 (fun _ _ => id)
  refine CallC_intro (Same_spec a r7 (resultL young b l1) L w7 ownA7.ints own7.ints (by omega)) (fun v w8 ⟨hv, f8⟩ => ?_)
  rw [decide_eq_true eL] at hv
  subst hv
  have f58 := (f6.no f7).no f8
  have F8 := F5.no f58
  have own3 : OwnC w8 w2.heap.size r3 (keepF (resultL young b l1) l) := own_keep own3 ((f4.no f5).no f58) (fun _ _ => id)
  have own5 : OwnR w8 w4.heap.size r5 (keepF (resultL young b l1) l) := own_keep own5 f58 (fun _ _ => id)
  have hkl : (keepF (resultL young b l1) l).length ≤ 300 := by
    have := List.length_filter_le (fun c => !decide (c.1 ∈ resultL young b l1)) l
    unfold keepF
    omega
  generalize keepF (resultL young b l1) l = K at own3 own5 hkl
  obtain ⟨a3, c3, e3⟩ := own_slice own3
  subst e3
  obtain ⟨a5, c5, e5⟩ := own_slice own5
  subst e5
  refine Br_nf rfl ?_
  refine LoopC_intro (α := Int) (fun k => [(8, .slice a3 K.length c3), (9, .slice a5 K.length c5), (10, .int .i64 k)])
    (fun m k w9 => Fr No w8 w9 ∧ 0 ≤ k ∧ k ≤ K.length ∧ m = (K.length - k).toNat)
    K.length 0 ⟨rfl, rfl, rfl, trivial⟩ ⟨Fr.refl _ _, Int.le_refl _, by show (0 : Int) ≤ _; omega, by show _ = ((K.length : Int) - 0).toNat; omega⟩ (fun m k w9 hJ => Kp ?_)
  obtain ⟨f9, k0, k1, hm⟩ := hJ
  have k0 : 0 ≤ k := k0
  have k1 : k ≤ K.length := k1
  refine Br_dec (fun g3 => ?_) (fun g3 => ?_)
  · have g3 : k < (K.length : Int) := g3
    have hi : k.toNat < K.length := by omega
    obtain ⟨x, rfl, hx⟩ := (own3.cands.keep f9 (fun _ _ => id)).cell rfl hi
    obtain ⟨x2, rfl, hx2⟩ := (own5.cands.keep f9 (fun _ _ => id)).cell rfl hi
    refine AnyC_plan T_ok mixed (planO [0,1,2,3,4,5,6,7,1008]) (Old w9) (by kernel_rfl) (by kernel_rfl) (fun _ _ => rfl) (Kp ?_)
    refine Sd_intro (show 0 ≤ k ∧ k < (K.length : Int) by omega) ?_
    refine LdSN_cells (vs := candL K[k.toNat]) hx rfl ?_
    refine Sd_intro (show 0 ≤ k ∧ k < (K.length : Int) by omega) ?_
    refine LdSN_cells (vs := candL K[k.toNat]) hx2 rfl ?_
    refine ⟨?_, trivial⟩
    refine NeS (cs := candL K[k.toNat]) (ds := candL K[k.toNat]) (by kernel_rfl) ?_
    refine Sd_intro (fun _ _ => rfl) ?_
    refine Br_f (by rw [cells18_self]; rfl) ?_
    refine ⟨(K.length - (k + 1)).toNat, _, by omega, ?_, k + 1, rfl, f9.drew', (show 0 ≤ k + 1 by omega), (show k + 1 ≤ (K.length : Int) by omega), rfl⟩
    exact ⟨rfl, rfl, look_int rfl (wrap_i64 (by omega) (by omega)), trivial⟩
  · exact ⟨rfl, F8.no f9⟩
end Go.Proofs.Ytfokdnmidfmddaa
