/- Layer 18 (cset): Choose. -/
import Derived.Test.YtfokdnmidfmddaaCset4
namespace Go.Proofs.Ytfokdnmidfmddaa
open Go.Vc Go.Sort

/-- What is taken of candidates in a row. -/
def takeB : Int → List (Int × Int) → List Int
  | _, [] => []
  | b, c :: r => if liveK c > b then [] else c.1 :: takeB (b - liveK c) r
theorem liveK_ge (c : Int × Int) : 0 ≤ liveK c := by unfold liveK; rw [imax_eq]; omega
theorem liveK_le (c : Int × Int) : liveK c = max c.2 0 := by unfold liveK; rw [imax_eq]
theorem takeB_nil {b : Int} {c : Int × Int} {r : List (Int × Int)} (h : liveK c > b) : takeB b (c :: r) = [] := by show (if _ then _ else _) = _; rw [if_pos h]
theorem takeB_cons {b : Int} {c : Int × Int} {r : List (Int × Int)} (h : ¬ liveK c > b) : takeB b (c :: r) = c.1 :: takeB (b - liveK c) r := by show (if _ then _ else _) = _; rw [if_neg h]
theorem takeB_len (b : Int) (l : List (Int × Int)) : (takeB b l).length ≤ l.length := by
  induction l generalizing b with
  | nil => exact Nat.le_refl 0
  | cons c r ih =>
    by_cases h : liveK c > b
    · rw [takeB_nil h]; simp
    · rw [takeB_cons h]; have := ih (b - liveK c); simp; exact this
/-- The regions that are chosen, of candidates in order. -/
def chosen (young : List Int) (b : Int) (l : List (Int × Int)) : List Int := (young ++ takeB b l).mergeSort fun x y => decide (x ≤ y)
theorem Choose_spec (vy vl : Value) (young : List Int) (l : List (Int × Int)) (b : Int) (w : World) (hy : Ints w vy young) (h : Cands w vl l) (ly : young.length ≤ 300) (ll : l.length ≤ 300) (hb : -9223372036854775808 ≤ b ∧ b ≤ 9223372036854775807) :
    CallC Pr f_cset_Choose [vy, vl, .int .i64 b] w (fun r w' => (∃ l', l'.Perm l ∧ Sorted l' ∧ Own w' w.heap.size r (ddN (chosen young b l') (chosen young b l').length)) ∧ Fr No w w') := by
  obtain ⟨ay, cy, rfl, _⟩ := id hy
  obtain ⟨al, cl, rfl, _⟩ := id h
  refine call_sound T_ok fun_cset_Choose rfl (by kernel_rfl) rfl (Kp ?_)
  refine CallC_intro (Clone_int_spec _ young w hy (by omega)) (fun r w1 ⟨own1, f1⟩ => ?_)
  refine CallC_intro (Clone_cand_spec _ l w1 (h.keep f1 (fun _ _ => id)) (by omega)) (fun vs w2 ⟨own2, f2⟩ => ?_)
  have r1 : ∀ k, r.ownBlock = some k → k < w1.heap.size := fun k e => own1.lt k e
  have own1 : Own w2 w.heap.size r young := own1.keep f2 (fun _ _ => id)
  refine CallC_intro (SortFunc_spec vs l w2 own2 (by omega)) (fun r0 w3 ⟨hr0, l', hp, hs, own3, f3⟩ => ?_)
  subst hr0
  have f13 : Fr No w w3 := (f1.no f2).new f3 (fun _ _ e => e) (fun k e => by have := own_ge own2 k e; have := f1.size; omega)
  have own1 : Own w3 w.heap.size r young := own_keepV own1 f3 (fun k e1 e2 => by have := own_ge own2 k e2; have := r1 k e1; omega)
  have ll' : l'.length = l.length := hp.length_eq
  obtain ⟨a3, c3, hv3⟩ := own_slice own3
  subst hv3
  have hC3 := own3.cands
  refine LoopC_intro (α := Int × Int × Value) (fun q => [(18, .slice a3 l'.length c3), (19, .int .i64 l'.length), (20, .int .i64 q.1), (2, .int .i64 q.2.1), (7, q.2.2)])
    (fun m q w4 => Fr No w w4 ∧ 0 ≤ q.1 ∧ q.1 ≤ l'.length ∧ (∃ tk, Own w4 w.heap.size q.2.2 (young ++ tk) ∧ tk.length = q.1.toNat ∧ takeB b l' = tk ++ takeB q.2.1 (l'.drop q.1.toNat)) ∧ OwnC w4 w1.heap.size (.slice a3 l'.length c3) l' ∧ (∀ k, q.2.2.ownBlock = some k → (Value.slice a3 l'.length c3).ownBlock ≠ some k) ∧ (-9223372036854775808 ≤ q.2.1 ∧ q.2.1 ≤ 9223372036854775807) ∧ m = (l'.length - q.1).toNat)
    l'.length (0, b, r) ⟨rfl, rfl, rfl, rfl, rfl, trivial⟩ ⟨f13, Int.le_refl _, (show (0 : Int) ≤ l'.length by omega), ⟨[], by rw [List.append_nil]; exact own1, rfl, rfl⟩, own3, fun k e1 e2 => by have := r1 k e1; have := own_ge own3 k e2; omega, hb, by show _ = ((l'.length : Int) - 0).toNat; omega⟩ (fun m q w4 hJ => Kp ?_)
  obtain ⟨f4, k0, k1, ⟨tk, ownT, lt, ht⟩, ownL, dis, bb, hm⟩ := hJ
  obtain ⟨k, bud, vo⟩ := q
  have k0 : 0 ≤ k := k0
  have k1 : k ≤ l'.length := k1
  have ownT : Own w4 w.heap.size vo (young ++ tk) := ownT
  have lt : tk.length = k.toNat := lt
  have ht : takeB b l' = tk ++ takeB bud (l'.drop k.toNat) := ht
  have dis : ∀ k, vo.ownBlock = some k → (Value.slice a3 l'.length c3).ownBlock ≠ some k := dis
  have bb : -9223372036854775808 ≤ bud ∧ bud ≤ 9223372036854775807 := bb
  have fin : ∀ (w5 : World) (L : List Int), Fr No w w5 → Own w5 w.heap.size vo L → L = young ++ takeB b l' → CallC Pr f_slices_Sort___int_int_ [vo] w5 (fun _ w6 => CallC Pr f_slices_Compact___int_int_ [vo] w6 (fun r w' => (∃ l', l'.Perm l ∧ Sorted l' ∧ Own w' w.heap.size r (ddN (chosen young b l') (chosen young b l').length)) ∧ Fr No w w')) := by
    intro w5 L F5 own5 hL
    have hlen : L.length ≤ 1000000 := by rw [hL, List.length_append]; have := takeB_len b l'; omega
    refine CallC_intro (Sort_spec vo L w5 own5 hlen) (fun r6 w6 ⟨_, own6, f6⟩ => ?_)
    refine CallC_intro (Compact_spec vo _ w6 own6 (by rw [List.length_mergeSort]; exact hlen)) (fun r7 w7 ⟨own7, _, f7⟩ => ?_)
    refine ⟨⟨l', hp, hs, ?_⟩, (F5.new f6 (fun _ _ e => e) (fun k e => own_ge own5 k e)).new f7 (fun _ _ e => e) (fun k e => own_ge own5 k e)⟩
    unfold chosen; rw [← hL]; exact own7
  refine Br_dec (fun g0 => ?_) (fun g0 => ?_)
  · have g0 : k < (l'.length : Int) := g0
    have hi : k.toNat < l'.length := by omega
    have hd : l'.drop k.toNat = l'[k.toNat] :: l'.drop (k.toNat + 1) := List.drop_eq_getElem_cons hi
    rcases own_cases ownL with ⟨_, h0, _⟩ | ⟨g3, cap3, cur3, hv3, hg3, hb3, hc3, hn3⟩
    · omega
    injection hv3 with e1 _ e3
    subst e1 e3
    refine Sd_intro (show 0 ≤ k ∧ k < (l'.length : Int) by omega) ?_
    refine LdN_idx (vs := candL l'[k.toNat]) hb3 (by rw [Nat.zero_add]; exact candsL_take hc3 hi (Nat.le_refl _)) rfl ?_
    refine NewC_blk (fun p w5 hp h5 f5 s5 => ?_)
    refine StN_blk h5 rfl (Nat.le_of_ble_eq_true rfl) (fun w6 h6 f6 s6 => ?_)
    have h6 : Blk w6 p t_cset_Candidate (candL l'[k.toNat]) := h6
    have f46 : Fr No w4 w6 := f5.new f6 (fun _ _ e => e) (fun k e => by omega)
    have own6 := ownT.keep f46 (fun _ _ => id)
    refine LdC_blk h6 rfl ?_
    refine Br_dec (fun g1 => ?_) (fun g1 => ?_)
    · have g1 : liveK l'[k.toNat] > bud := g1
      rw [hd, takeB_nil g1, List.append_nil] at ht
      exact fin w6 (young ++ tk) (f4.no f46) own6 (by rw [ht])
    · have g1 : ¬ liveK l'[k.toNat] > bud := g1
      have lg := liveK_ge l'[k.toNat]
      have ew : IntKind.i64.wrap (bud - liveK l'[k.toNat]) = bud - liveK l'[k.toNat] := wrap_i64 (by omega) (by omega)
      rw [hd, takeB_cons g1] at ht
      refine LdC_blk h6 rfl ?_
      refine NewC_blk (fun x w7 hx h7 f7 s7 => ?_)
      have h7 : Blk w7 x t_int [.int .i64 l'[k.toNat].1] := h7
      have own7 : w7.ownsRow w.heap.size t_int 1 vo (young ++ tk).length (ints (young ++ tk)) := own6.keep f7 (fun _ _ => id)
      have tl : tk.length ≤ l'.length := by omega
      have s4 := f4.size
      have s46 := f46.size
      have s7' := f7.size
      refine ApL T_ok (base := w.heap.size) (xs := ints (young ++ tk)) (news := [.int .i64 l'[k.toNat].1]) rfl rfl rfl (by decide) own7 (by omega) h7 rfl rfl rfl (by rw [List.length_append]; omega) (show ((young ++ tk).length + 1) * 8 ≤ _ by rw [List.length_append]; omega) (fun v' w8 own8 f8 loc => ?_)
      have f48 := f46.no f7
      have F8 : Fr No w w8 := (f4.no f48).new f8 (fun _ _ e => e) (fun k e => own_ge own7 k e)
      refine ⟨(l'.length - (k + 1)).toNat, _, by omega, ?_, (k + 1, bud - liveK l'[k.toNat], v'), rfl, F8, (show 0 ≤ k + 1 by omega), (show k + 1 ≤ (l'.length : Int) by omega), ⟨tk ++ [l'[k.toNat].1], ?_, ?_, ?_⟩, ?_, ?_, ?_, rfl⟩
      · exact ⟨rfl, rfl, look_int rfl (wrap_i64 (by omega) (by omega)), look_int rfl ew, rfl, trivial⟩
      · have e : (young ++ tk).length + 1 = (young ++ (tk ++ [l'[k.toNat].1])).length := by simp; omega
        have e2 : ints (young ++ tk) ++ [Value.int .i64 l'[k.toNat].1] = ints (young ++ (tk ++ [l'[k.toNat].1])) := by simp [ints]
        show Own w8 w.heap.size v' (young ++ (tk ++ [l'[k.toNat].1]))
        unfold Own
        rw [← e, ← e2]; exact own8
      · show (tk ++ [l'[k.toNat].1]).length = (k + 1).toNat
        rw [List.length_append, lt]; simp; omega
      · show takeB b l' = (tk ++ [l'[k.toNat].1]) ++ takeB (bud - liveK l'[k.toNat]) (l'.drop (k + 1).toNat)
        rw [ht, show (k + 1).toNat = k.toNat + 1 by omega]; simp
      · exact own_keepV (own_keep ownL f48 (fun _ _ => id)) f8 (fun k e1 e2 => dis k e2 e1)
      · intro k' e1 e2
        have e2 : g3 = k' := by injection e2
        rcases loc with loc | loc
        · rw [loc] at e1; exact dis k' e1 (by rw [← e2]; rfl)
        · rw [loc] at e1; injection e1 with e1
          have := hb3.lt
          omega
      · show -9223372036854775808 ≤ bud - liveK l'[k.toNat] ∧ bud - liveK l'[k.toNat] ≤ 9223372036854775807
        omega
  · have g0 : ¬ k < (l'.length : Int) := g0
    have e : l'.drop k.toNat = [] := List.drop_eq_nil_of_le (by omega)
    rw [e] at ht
    have ht : takeB b l' = tk := by rw [ht]; exact List.append_nil tk
    exact fin w4 (young ++ tk) f4 ownT (by rw [ht])
end Go.Proofs.Ytfokdnmidfmddaa
