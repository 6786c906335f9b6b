/- CsetKeeps: the walk. -/
import Derived.Test.YtfokdnmidfmddaaCset7
namespace Go.Proofs.Ytfokdnmidfmddaa
open Go.Vc Go.Sort

theorem cells_self (c : Int × Int) : cellsEq (candL c) (candL c) = true := by
  show ((c.1 == c.1) && ((c.2 == c.2) && true)) = true
  simp
theorem CsetKeeps_spec (vy vl : Value) (young : List Int) (l : List (Int × Int)) (b : Int) (w : World) (hy : Ints w vy young) (h : Cands w vl l) (hb : -9223372036854775808 ≤ b ∧ b ≤ 9223372036854775807) :
    CallC Pr f_gleanerlaw18_CsetKeeps [vy, vl, .int .i64 b] w (fun v w' => v = .bool true ∧ Fr No w w') := by
  obtain ⟨ay, cy, ey, _⟩ := id hy
  obtain ⟨al, cl, el, _⟩ := id h
  subst ey el
  refine call_sound T_ok fun_gleanerlaw18_CsetKeeps rfl (by kernel_rfl) rfl (Kp ?_)
  refine CallC_intro (awake18_spec w) (fun v w1 ⟨hv, f1⟩ => ?_)
  subst hv
  refine Br_dec (fun g0 => ?_) (fun g0 => ?_)
  · exact ⟨rfl, f1⟩
  have g0 : ¬ (young.length : Int) > 300 := g0
  refine Br_dec (fun g1 => ?_) (fun g1 => ?_)
  · exact ⟨rfl, f1⟩
  have g1 : ¬ (l.length : Int) > 300 := g1
  have hl : l.length ≤ 300 := by omega
  have hyl : young.length ≤ 300 := by omega
  refine NewC_blk (fun b2 w2 hb2 h2 f2 s2 => ?_)
  have F2 := f1.no f2
  refine CopyI h2 (hy.keep F2 (fun _ _ => id)) (by omega) (by omega) (fun y w3 ownY f3 => ?_)
  have f13 : Fr No w1 w3 := f2.new f3 (fun _ _ e => e) (fun k e => by omega)
  have F3 := f1.no f13
  have s3 := f3.size
  refine NewC_blk (fun b4 w4 hb4 h4 f4 s4 => ?_)
  have F4 := F3.no f4
  refine CopyC h4 (h.keep F4 (fun _ _ => id)) (by omega) (by omega) (fun lv w5 ownL f5 => ?_)
  have f35 : Fr No w3 w5 := f4.new f5 (fun _ _ e => e) (fun k e => by omega)
  have F5 := F3.no f35
  have s5 := f5.size
  have ownY := ownY.keep f35 (fun _ _ => id)
  have ltY := fun k e => ownY.lt k e
  have ltL := fun k e => (World.ownsRow.lt ownL k e).2
  refine CallC_intro (Choose_spec y lv young l b w5 ownY.ints ownL.cands hyl hl hb) (fun a w6 ⟨⟨l1, p1, hs1, ownA⟩, f6⟩ => ?_)
  have ownA : Own w6 w5.heap.size a (resultL young b l1) := ownA
  have F6 := F5.no f6
  have ownY := ownY.keep f6 (fun _ _ => id)
  have ownL := own_keep ownL f6 (fun _ _ => id)
  have s6 := f6.size
  have ltA := fun k e => ownA.lt k e
  have ew : IntKind.i64.wrap ((l.length : Int) - 1) = (l.length : Int) - 1 := wrap_i64 (by omega) (by omega)
  refine LoopC_intro (α := Int × Value) (fun q => [(0, .slice ay young.length cy), (1, .slice al l.length cl), (2, .int .i64 b), (7, y), (8, lv), (9, a), (10, q.2), (11, .int .i64 q.1)])
    (fun m q w7 => Fr No w6 w7 ∧ -1 ≤ q.1 ∧ q.1 < l.length ∧ OwnC w7 w6.heap.size q.2 (l.drop (q.1 + 1).toNat).reverse ∧ m = (q.1 + 1).toNat)
    l.length ((l.length : Int) - 1, .slice none 0 0) ⟨rfl, rfl, rfl, rfl, rfl, rfl, rfl, look_int rfl ew, trivial⟩ ⟨Fr.refl _ _, by show (-1 : Int) ≤ _; omega, by show (l.length : Int) - 1 < _; omega, ?_, by show l.length = _; omega⟩ (fun m q w7 hJ => Kp ?_)
  · show OwnC w6 w6.heap.size (.slice none 0 0) (l.drop ((l.length : Int) - 1 + 1).toNat).reverse
    rw [show ((l.length : Int) - 1 + 1).toNat = l.length by omega, List.drop_length]
    exact World.ownsRow_nil _ _ _ _
  obtain ⟨f7, i0, i1, ownB, hm⟩ := hJ
  obtain ⟨i, bv⟩ := q
  have i0 : -1 ≤ i := i0
  have i1 : i < l.length := i1
  have ownB : OwnC w7 w6.heap.size bv (l.drop (i + 1).toNat).reverse := ownB
  have F7 := F6.no f7
  refine Br_dec (fun g2 => ?_) (fun g2 => ?_)
  · have g2 : i ≥ 0 := g2
    have hi : i.toNat < l.length := by omega
    obtain ⟨x, rfl, hx⟩ := (h.keep F7 (fun _ _ => id)).cell rfl hi
    refine Sd_intro (show 0 ≤ i ∧ i < (l.length : Int) by omega) ?_
    refine LdN_cells (vs := candL l[i.toNat]) hx rfl ?_
    refine NewC_blk (fun p w8 hp h8 f8 s8 => ?_)
    have h8 : Blk w8 p t_cset_Candidate (candL l[i.toNat]) := h8
    have own8 : w8.ownsRow w6.heap.size t_cset_Candidate 2 bv (l.drop (i + 1).toNat).reverse.length (candsL (l.drop (i + 1).toNat).reverse) := own_keep ownB f8 (fun _ _ => id)
    have s7 := f7.size
    have hdl : (l.drop (i + 1).toNat).reverse.length ≤ 300 := by rw [List.length_reverse, List.length_drop]; omega
    refine ApL T_ok (base := w6.heap.size) (xs := candsL (l.drop (i + 1).toNat).reverse) (news := candL l[i.toNat]) rfl rfl rfl (by decide) own8 (by omega) h8 rfl rfl rfl (by omega) (show ((l.drop (i + 1).toNat).reverse.length + 1) * 16 ≤ _ by omega) (fun v' w9 own9 f9 loc => ?_)
    have ei : IntKind.i64.wrap (i - 1) = i - 1 := wrap_i64 (by omega) (by omega)
    have er : (l.drop (i - 1 + 1).toNat).reverse = (l.drop (i + 1).toNat).reverse ++ [l[i.toNat]] := by
      rw [show (i - 1 + 1).toNat = i.toNat by omega, show (i + 1).toNat = i.toNat + 1 by omega, List.drop_eq_getElem_cons hi, List.reverse_cons]
    refine ⟨(i - 1 + 1).toNat, _, by omega, ?_, (i - 1, v'), rfl, (f7.no f8).new f9 (fun _ _ e => e) (fun k e => own_ge own8 k e), by show -1 ≤ i - 1; omega, by show i - 1 < (l.length : Int); omega, ?_, rfl⟩
    · exact ⟨rfl, rfl, rfl, rfl, rfl, rfl, rfl, look_int rfl ei, trivial⟩
    · show OwnC w9 w6.heap.size v' (l.drop (i - 1 + 1).toNat).reverse
      unfold OwnC
      rw [er, candsL_app, List.length_append]
      exact own9
  have g2 : ¬ i ≥ 0 := g2
  have ownB : OwnC w7 w6.heap.size bv l.reverse := by
    have e : (i + 1).toNat = 0 := by omega
    rw [e] at ownB; exact ownB
  have ownY7 := ownY.keep f7 (fun _ _ => id)
  have ownL7 := own_keep ownL f7 (fun _ _ => id)
  have ownA7 := ownA.keep f7 (fun _ _ => id)
  have s7 := f7.size
  refine CallC_intro (Same_spec y _ young young w7 ownY7.ints (hy.keep F7 (fun _ _ => id)) (by omega)) (fun v w8 ⟨hv, f8⟩ => ?_)
  rw [decide_eq_true rfl] at hv
  subst hv
  have F8 := F7.no f8
  refine CallC_intro (Choose_spec _ bv young l.reverse b w8 (hy.keep F8 (fun _ _ => id)) (show OwnC w8 w6.heap.size bv l.reverse from own_keep ownB f8 (fun _ _ => id)).cands hyl (by rw [List.length_reverse]; exact hl) hb) (fun a2 w9 ⟨⟨l2, p2, hs2, ownA2⟩, f9⟩ => ?_)
  have ownA2 : Own w9 w8.heap.size a2 (resultL young b l2) := ownA2
  have ers : resultL young b l1 = resultL young b l2 := result_eq hs1 hs2 (p1.trans ((p2.trans (List.reverse_perm l)).symm))
  have F9 := F8.no f9
  have f79 := f8.no f9
  have rl : (resultL young b l1).length ≤ 1000000 := by
    have := ddN_len (chosen young b l1) (chosen young b l1).length
    unfold resultL
    have e : (chosen young b l1).length = (young ++ takeB b l1).length := List.length_mergeSort _
    rw [List.length_append] at e
    have := takeB_len b l1
    have := p1.length_eq
    omega
  refine CallC_intro (Same_spec a a2 (resultL young b l1) (resultL young b l2) w9 (ownA7.keep f79 (fun _ _ => id)).ints ownA2.ints (by omega)) (fun v w10 ⟨hv, f10⟩ => ?_)
  rw [decide_eq_true ers] at hv
  subst hv
  have f710 := f79.no f10
  have F10 := F9.no f10
  have ownY10 := ownY7.keep f710 (fun _ _ => id)
  have ownL10 : OwnC w10 b4 lv l := own_keep ownL7 f710 (fun _ _ => id)
  have ownA10 := ownA7.keep f710 (fun _ _ => id)
  have s10 := f710.size
  obtain ⟨aL, cL, eL⟩ := own_slice ownL10
  subst eL
  obtain ⟨aA, cA, eA⟩ := own_slice ownA10
  subst eA
  refine LoopC_intro (α := Int) (fun k => [(0, .slice ay young.length cy), (1, .slice al l.length cl), (7, y), (8, .slice aL l.length cL), (9, .slice aA (resultL young b l1).length cA), (12, .int .i64 k)])
    (fun m k w11 => Fr No w10 w11 ∧ 0 ≤ k ∧ k ≤ l.length ∧ m = (l.length - k).toNat)
    l.length 0 ⟨rfl, rfl, rfl, rfl, rfl, rfl, trivial⟩ ⟨Fr.refl _ _, Int.le_refl _, by show (0 : Int) ≤ _; omega, by show _ = ((l.length : Int) - 0).toNat; omega⟩ (fun m k w11 hJ => Kp ?_)
  obtain ⟨f11, k0, k1, hm⟩ := hJ
  have k0 : 0 ≤ k := k0
  have k1 : k ≤ l.length := k1
  have F11 := F10.no f11
  refine Br_dec (fun g3 => ?_) (fun g3 => ?_)
  · have g3 : k < (l.length : Int) := g3
    have hi : k.toNat < l.length := by omega
    obtain ⟨x, rfl, hx⟩ := (h.keep F11 (fun _ _ => id)).cell rfl hi
    obtain ⟨x2, rfl, hx2⟩ := (ownL10.cands.keep f11 (fun _ _ => id)).cell rfl hi
    refine AnyC_plan T_ok mixed (planO [0,1,2,3,4,5,6,7,1008]) (Old w11) (by kernel_rfl) (by kernel_rfl) (fun _ _ => rfl) (Kp ?_)
    refine Sd_intro (show 0 ≤ k ∧ k < (l.length : Int) by omega) ?_
    refine LdSN_cells (vs := candL l[k.toNat]) hx2 rfl ?_
    refine Sd_intro (show 0 ≤ k ∧ k < (l.length : Int) by omega) ?_
    refine LdSN_cells (vs := candL l[k.toNat]) hx rfl ?_
    refine ⟨?_, trivial⟩
    refine NeS (cs := candL l[k.toNat]) (ds := candL l[k.toNat]) (by kernel_rfl) ?_
    refine Sd_intro (fun _ _ => rfl) ?_
    refine Br_f (by rw [cells_self]; rfl) ?_
    refine ⟨(l.length - (k + 1)).toNat, _, by omega, ?_, k + 1, rfl, f11.drew', (show 0 ≤ k + 1 by omega), (show k + 1 ≤ (l.length : Int) by omega), rfl⟩
    exact ⟨rfl, rfl, rfl, rfl, rfl, look_int rfl (wrap_i64 (by omega) (by omega)), trivial⟩
  have g3 : ¬ k < (l.length : Int) := g3
  have ownA11 := ownA10.keep f11 (fun _ _ => id)
  have ownY11 := ownY10.keep f11 (fun _ _ => id)
  refine LoopC_intro (α := Int) (fun k => [(0, .slice ay young.length cy), (7, y), (9, .slice aA (resultL young b l1).length cA), (13, .int .i64 k)])
    (fun m k w12 => Fr (fun k => (Value.slice aA (resultL young b l1).length cA).ownBlock = some k) w11 w12 ∧ 0 ≤ k ∧ k ≤ (resultL young b l1).length ∧ (∀ g, aA = some g → ∃ c12, Blk w12 g.block t_int c12 ∧ g = ⟨g.block, 0, none⟩ ∧ (resultL young b l1).length ≤ c12.length) ∧ m = ((resultL young b l1).length - k).toNat)
    (resultL young b l1).length 0 ⟨rfl, rfl, rfl, rfl, trivial⟩ ⟨Fr.refl _ _, Int.le_refl _, by show (0 : Int) ≤ _; omega, ?_, by show _ = (((resultL young b l1).length : Int) - 0).toNat; omega⟩ (fun m k w12 hJ => Kp ?_)
  · intro g e
    rcases own_cases ownA11 with ⟨hv, _, _⟩ | ⟨g', cap, cur, hv, _, hb', ht, hn⟩
    · injection hv with hv _ _; rw [hv] at e; cases e
    · injection hv with hv _ _
      rw [hv] at e
      injection e with e
      subst e
      refine ⟨cur, hb', rfl, ?_⟩
      have := congrArg List.length ht
      rw [ints_len, List.length_take] at this
      omega
  obtain ⟨f12, k0, k1, hc12, hm⟩ := hJ
  have k0 : 0 ≤ k := k0
  have k1 : k ≤ (resultL young b l1).length := k1
  refine Br_dec (fun g4 => ?_) (fun g4 => ?_)
  · have g4 : k < ((resultL young b l1).length : Int) := g4
    cases aA with
    | none =>
      rcases own_cases ownA11 with ⟨_, h0, _⟩ | ⟨g', cap, cur, hv, _⟩
      · omega
      · cases hv
    | some ad =>
      obtain ⟨c12, hb12, hg, hlen⟩ := hc12 ad rfl
      obtain ⟨gb, go, gp⟩ := ad
      injection hg with _ hg1 hg2
      subst hg1 hg2
      have hb12 : Blk w12 gb t_int c12 := hb12
      refine Sd_intro (show 0 ≤ k ∧ k < ((resultL young b l1).length : Int) by omega) ?_
      refine StC_idx hb12 rfl (u := c12[k.toNat]'(by omega)) (by rw [Nat.zero_add, Nat.mul_one]; exact List.getElem?_eq_getElem _) (fun w13 h13 f13 s13 => ?_)
      refine ⟨((resultL young b l1).length - (k + 1)).toNat, _, by omega, ?_, k + 1, rfl, ?_, (show 0 ≤ k + 1 by omega), (show k + 1 ≤ ((resultL young b l1).length : Int) by omega), ?_, rfl⟩
      · exact ⟨rfl, rfl, rfl, look_int rfl (wrap_i64 (by omega) (by omega)), trivial⟩
      · exact f12.trans f13 (fun _ _ e => e) (fun k _ e => by rw [e]; rfl)
      · intro g e
        injection e with e
        subst e
        exact ⟨_, h13, rfl, by rw [List.length_set]; exact hlen⟩
  have g4 : ¬ k < ((resultL young b l1).length : Int) := g4
  have geA := fun k e => own_ge ownA11 k e
  have sz : w11.heap.size ≥ w10.heap.size := f11.size
  have F12 : Fr No w w12 := F11.new f12 (fun _ _ e => e) (fun k e => by
    have := geA k e
    have := F5.size
    omega)
  have ownY12 := own_keepV ownY11 f12 (fun k e1 e2 => by
    have h1 := geA k e2
    have h2 := ltY k e1
    omega)
  refine CallC_intro (Same_spec y _ young young w12 (Own.ints ownY12) (hy.keep F12 (fun _ _ => id)) (by omega)) (fun v w13 ⟨hv, f13⟩ => ?_)
  rw [decide_eq_true rfl] at hv
  subst hv
  exact ⟨rfl, F12.no f13⟩
end Go.Proofs.Ytfokdnmidfmddaa
