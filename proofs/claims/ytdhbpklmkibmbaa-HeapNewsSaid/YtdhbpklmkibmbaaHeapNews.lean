/- Law HeapNews. -/
import Derived.Test.YtdhbpklmkibmbaaAwake14
import Derived.Test.YtdhbpklmkibmbaaSame01
namespace Go.Proofs.Ytdhbpklmkibmbaa
open Go.Vc

theorem zeros_st (n : Nat) (r : Int) : stS (zeros7 n) r = 0 := by
  unfold stS rget
  by_cases h : 0 ≤ r
  · rw [if_pos h]
    unfold zeros7
    rw [List.getElem?_replicate]
    by_cases g : r.toNat < n
    · rw [if_pos g]
    · rw [if_neg g]
  · rw [if_neg h]
theorem row_new (c : Cfg) (r : Int) : rowS c (newS c) r = some [] := by
  unfold rowS
  exact if_pos (.inl (zeros_st _ r))
theorem objs_new (c : Cfg) : ∀ n, objsF c (newS c) n = some [] := by
  intro n
  induction n with
  | zero => rfl
  | succ n ih => exact objsF_step ih (row_new c n)
theorem ok_new (c : Cfg) : okS c (newS c) = some [] := by
  unfold okS objsS
  rw [objs_new]
  refine if_pos ⟨fun o ho => (by cases ho), fun l hl => ?_⟩
  have hl : l ∈ List.replicate c.c3.toNat ([] : List Int) := hl
  rw [(List.mem_replicate.1 hl).2]; rfl
theorem ok_newA (c : Cfg) (q : Int) : okS c ((newS c).setAcc q) = some [] := by
  have h : ∀ n, objsF c ((newS c).setAcc q) n = some [] := by
    intro n
    induction n with
    | zero => rfl
    | succ n ih => exact objsF_step ih (by unfold rowS; exact if_pos (.inl (zeros_st _ _)))
  unfold okS objsS
  rw [h]
  refine if_pos ⟨fun o ho => (by cases ho), fun l hl => ?_⟩
  have hl : l ∈ List.replicate c.c3.toNat ([] : List Int) := hl
  rw [(List.mem_replicate.1 hl).2]; rfl
theorem LdS_ofi {S : World → Prop} {b t o n : Nat} {cs : List Value} {v : Value} {K : Value → Prop} (h : ∀ w', S w' → Blk w' b t cs) (hc : cs[o + n]? = some v) (k : K v) : LdS S ((Addr.mk b o none).add n) K := by
  rw [add_of]; exact LdS_of h hc k
theorem meet_new : ∀ n, meetS [] (List.replicate n ([] : List Int)) = [] := by
  intro n
  induction n with
  | zero => rfl
  | succ n ih => exact ih
theorem shape_new (n : Nat) : (shapeF [] (List.replicate n [])).length = n := by
  have e : shapeF [] (List.replicate n []) = (List.replicate n ([] : List Int)).flatMap (rowOut []) := by
    unfold shapeF shapeO
    have : orderN (gOf []) (List.replicate n []) ([] : List Ob).length = [] := meet_new n
    rw [this, List.flatMap_nil, List.append_nil]
  rw [e]
  induction n with
  | zero => rfl
  | succ n ih =>
    rw [List.replicate_succ, List.flatMap_cons, List.length_append, ih ?_]
    · show 1 + n = n + 1
      omega
    · unfold shapeF shapeO
      have : orderN (gOf []) (List.replicate n []) ([] : List Ob).length = [] := meet_new n
      rw [this, List.flatMap_nil, List.append_nil]
theorem idxs_new (n : Nat) : (idxs 0 (zeros7 n) n).length = n := by
  unfold idxs
  rw [List.length_map, List.filter_eq_self.2 (fun k hk => ?_), List.length_range]
  have := List.mem_range.1 hk
  unfold zeros7
  rw [List.getElem?_replicate, if_pos this]; rfl
theorem cells_refl : ∀ (l : List Int), cellsEq (l.map (Value.int .i64)) (l.map (Value.int .i64)) = true := by
  intro l
  induction l with
  | nil => rfl
  | cons x l ih =>
    show ((x == x) && _) = true
    rw [ih]; simp
theorem cfg_refl (c : Cfg) : cellsEq (cfgL c) (cfgL c) = true := cells_refl [c.c0, c.c1, c.c2, c.c3, c.c4, c.c5, c.c6, c.c7, c.c8, c.c9, c.c10, c.c11, c.c12, c.c13]
theorem geo_refl (c : Cfg) : cellsEq (geoC c) (geoC c) = true := cells_refl [c.c1 * P c, P c, Q c, c.c1, c.c1 * P c / Q c, min 1048576 (c.c1 * P c - P c)]
theorem NeSt {P : Program} {t : TypeId} {X Y : Operand} {cs ds : List Value} {w : World} {K : Value → World → Prop} (h : eqStruct P t cs ds = true) (e : cellsEq cs ds = true) (k : K (.bool false) w) :
    RunC P (do eqGuard .neq t X Y (.agg cs.toArray) (.agg ds.toArray); binOp .neq t (.agg cs.toArray) (.agg ds.toArray)) w K := NeS h (by rw [e]; exact k)

theorem heapNews_spec (c : Cfg) (w : World) : CallC Pr f_gleanerlaw14_HeapNews [cfgV c] w (fun v w' => v = .bool true ∧ Fr No w w') := by
  refine call_sound T_ok fun_gleanerlaw14_HeapNews rfl (by kernel_rfl) rfl (Kp ?_)
  refine NewC_blk (fun p1 w1 hp1 h1 f1 s1 => ?_)
  have h1 : Blk w1 p1 t_api_Config (cfgL c) := h1
  refine CallC_intro (awake14_spec w1) (fun v w2 ⟨hv, f2⟩ => ?_)
  subst hv
  have h2 := h1.keep f2 id
  have F2 := f1.no f2
  refine LdN_blk (vs := cfgL c) (h2) rfl rfl ?_
  refine CallC_intro (geom_New_spec c w2) (fun v w3 ⟨hv, f3⟩ => ?_)
  have h3 := h2.keep f3 id
  have F3 := F2.no f3
  by_cases hV : Valid c
  · have hv : v = .tuple #[geoOf c, .int .i64 0] := by
      rcases hv with ⟨_, hv⟩ | ⟨hn, _⟩
      · exact hv
      · exact absurd hV hn
    subst hv
    refine NewC_blk (fun p3 w4 e_p3 b4 f4 z4 => ?_)
    refine StN_blk (b4) rfl (Nat.le_of_ble_eq_true rfl) (fun w5 b5 f5 z5 => ?_)
    have b5 : Blk w5 p3 t_geom_Geom (geoC c) := b5
    have f35 : Fr No w3 w5 := f4.new f5 (fun _ _ e => e) (fun k e => by omega)
    have F5 := F3.no f35
    have h5 := h3.keep f35 id
    refine LdC_blk (b5) rfl ?_
    refine Br_dec (fun g => ?_) (fun g => ?_)
    · exact ⟨rfl, F5⟩
    have g : ¬ c.c1 * P c > 65536 := g
    refine LdN_blk (vs := cfgL c) (h5) rfl rfl ?_
    refine CallC_intro (heap_New_spec c w5 hV) (fun v w6 ⟨hb, p, z, hv, H6, zl, z0, f6⟩ => ?_)
    subst hv
    obtain ⟨ar, HA6⟩ := H6.ha
    have b6 := b5.keep f6 id
    have h6 := h5.keep f6 id
    have F6 := F5.no f6
    refine CallC_intro (Shape_spec w6 HA6) (fun v w7 ⟨⟨q7, HA7⟩, f7, hv⟩ => ?_)
    rw [ok_new] at hv
    obtain ⟨out, hv, own7⟩ := hv
    subst hv
    obtain ⟨rra, rrc, er, hT⟩ := H6.cells
    have zhb := H6.tabz
    obtain ⟨ar0, hA0, zab, zar⟩ := H6.arena
    have nab : hb ≠ p.ab := fun e => by rw [e, zab] at zhb; cases zhb
    have old : ∀ k, k < w5.heap.size → k ≠ p.ab := fun k hk e => by have h1 := z0 k hk; rw [e, zab] at h1; cases h1
    have hT7 := hT.keep f7 nab
    have h7 := h6.keep f7 (old _ h5.lt)
    have b7 := b6.keep f7 (old _ b5.lt)
    have F7 : Fr No w w7 := F6.trans f7 (fun _ _ e => e) (fun k hk e => old k (Nat.lt_of_lt_of_le hk F5.size) e)
    have hp := P_le hV
    have c3 := H6.c3
    have hbl := H6.bsl
    have lout : (shapeF [] (newS c).refs).length = c.c3.toNat := shape_new _
    obtain ⟨oa, oc, eo⟩ := own_slice own7
    subst eo
    refine AnyC_plan T_ok mixed (planO [0,1,2,3,4,1005,6,7,8,9,10,11,1012,13,14,15,16,17,18,20,21,1019,22,23,24,25,26,27,28,30,31,1029,32,33,34,35,36,37,38,39,40,41,42,43,44,45,46,47,48,49,50,51,52,53,54,55,56,57,58,61,62,1059,60,63,64,65,66,1067,68,69,70,71,72,73,74,75,76,77,78,79,80]) ((fun w' => Blk w' hb t_heap_Heap (cfgL c ++ geoC c ++ [ptr p.ab, ptr p.rb, ptr p.ob, ptr p.cb, ptr p.qb, ptr p.sb, ptr p.mb, .slice rra p.bs.length rrc, .slice (some ⟨p.bf, 0, none⟩) c.c3.toNat c.c3.toNat]) ∧ Blk w' p1 t_api_Config (cfgL c) ∧ Blk w' p3 t_geom_Geom (geoC c))) (by kernel_rfl) (by kernel_rfl) (⟨hT7.keep (Fr.drew _) id, h7.keep (Fr.drew _) id, b7.keep (Fr.drew _) id⟩) (Kp ?_)
    have D7 : Fr No w7 w7.drew := Fr.drew w7
    have H7 := HA7.h
    have hws : (((newS c).setAcc q7).ws.length : Int) = c.c1 * P c := H7.wsl
    refine LdSN_of (vs := cfgL c) (fun w' hw => hw.1) rfl rfl (Kp ?_)
    refine LdSN_of (vs := cfgL c) (fun w' hw => hw.2.1) rfl rfl (Kp ?_)
    refine ⟨?_, trivial⟩
    refine NeSt (cs := cfgL c) (ds := cfgL c) (by kernel_rfl) (cfg_refl c) (Kp ?_)
    refine Sd_intro ⟨hT7.keep D7 id, h7.keep D7 id, b7.keep D7 id⟩ (Kp ?_)
    refine LdSN_of (vs := geoC c) (fun w' hw => hw.1) rfl rfl (Kp ?_)
    refine LdSN_of (vs := geoC c) (fun w' hw => hw.2.2) rfl rfl (Kp ?_)
    refine ⟨?_, trivial⟩
    refine NeSt (cs := geoC c) (ds := geoC c) (by kernel_rfl) (geo_refl c) (Kp ?_)
    refine Sd_intro ⟨hT7.keep D7 id, h7.keep D7 id, b7.keep D7 id⟩ (Kp ?_)
    refine LdS_of (fun w' hw => hw.1) rfl (Kp ?_)
    refine LdS_of (fun w' hw => hw.2.2) rfl (Kp ?_)
    refine ⟨Kp ?_, trivial⟩
    refine CallC_intro (arena_Len_spec _ (HA7.a.keep D7 id id)) (fun v w8 ⟨hv, f8⟩ => ?_)
    rw [hws] at hv
    subst hv
    have f78 := D7.no f8
    refine Sd_intro ⟨hT7.keep f78 id, h7.keep f78 id, b7.keep f78 id⟩ (Kp ?_)
    refine Br_nf rfl (Kp ?_)
    refine LdS_of (fun w' hw => hw.1) rfl (Kp ?_)
    refine LdS_of (fun w' hw => hw.2.2) rfl (Kp ?_)
    refine ⟨Kp ?_, trivial⟩
    obtain ⟨mr, hM, _, _⟩ := H7.marks
    refine CallC_intro (bits_Len_spec _ (hM.keep f78 id id)) (fun v w9 ⟨hv, f9⟩ => ?_)
    subst hv
    have f79 := f78.no f9
    refine Sd_intro ⟨hT7.keep f79 id, h7.keep f79 id, b7.keep f79 id⟩ (Kp ?_)
    refine Br_nf rfl (Kp ?_)
    refine LdS_of (fun w' hw => hw.1) rfl (Kp ?_)
    refine LdS_of (fun w' hw => hw.2.1) rfl (Kp ?_)
    refine Br_nf hbl (Kp ?_)
    refine LdS_of (fun w' hw => hw.1) rfl (Kp ?_)
    refine LdS_of (fun w' hw => hw.2.1) rfl (Kp ?_)
    refine Br_nf (show ((c.c3.toNat : Nat) : Int) = c.c3 by omega) (Kp ?_)
    refine LdS_of (fun w' hw => hw.1) rfl (Kp ?_)
    refine LdS_of (fun w' hw => hw.2.2) rfl (Kp ?_)
    refine ⟨Kp ?_, trivial⟩
    obtain ⟨rr, hR, _, _⟩ := H7.regs
    refine CallC_intro (region_List_spec 0 _ (hR.keep f79 id id)) (fun v w10 ⟨own10, f10⟩ => ?_)
    obtain ⟨la, lc, el⟩ := own_slice own10
    subst el
    have f710 := f79.no f10
    have r0 := hV.r0
    have hidx : (((idxs 0 ((newS c).setAcc q7).rs ((newS c).setAcc q7).rs.length).length : Nat) : Int) = c.c1 := by
      show (((idxs 0 (zeros7 c.c1.toNat) (zeros7 c.c1.toNat).length).length : Nat) : Int) = c.c1
      have e : (zeros7 c.c1.toNat).length = c.c1.toNat := by unfold zeros7; rw [List.length_replicate]
      rw [e, idxs_new]; omega
    refine Sd_intro ⟨hT7.keep f710 id, h7.keep f710 id, b7.keep f710 id⟩ (Kp ?_)
    refine Br_nf hidx (Kp ?_)
    refine ⟨Kp ?_, trivial⟩
    refine CallC_intro (Check_spec _ (HA7.no f710)) (fun v w11 ⟨⟨q11, HA11⟩, f11, hv⟩ => ?_)
    have ec : chkV c ((newS c).setAcc q7) = 0 := by
      have : okS c ((newS c).setAcc q7) = some [] := ok_newA c q7
      unfold chkV; rw [this]
    rw [ec] at hv
    subst hv
    have l7 := f710.size
    have s67 := f7.size
    have lt6 : ∀ {k t cs}, Blk w5 k t cs → k < w5.heap.size := fun h => h.lt
    have F11 : Fr No w w11 := (F7.no f710).trans f11 (fun _ _ e => e) (fun k hk e => old k (Nat.lt_of_lt_of_le hk F5.size) e)
    have hT11 := (hT7.keep f710 id).keep f11 nab
    have h11 := (h7.keep f710 id).keep f11 (old _ h5.lt)
    have b11 := (b7.keep f710 id).keep f11 (old _ b5.lt)
    have HA11 : HA w11 z c hb p ((newS c).setAcc q11) ar := HA11
    refine Sd_intro ⟨hT11, h11, b11⟩ (Kp ?_)
    refine LdS_of (fun w' hw => hw.2.1) rfl (Kp ?_)
    refine Br_nf (show (((shapeF [] (newS c).refs).length : Nat) : Int) = c.c3 by rw [lout]; omega) (Kp ?_)
    refine LoopC_intro (α := Int) (fun i => [(1, .pointer (some ⟨p1, 0, none⟩)), (3, .pointer (some ⟨p3, 0, none⟩)), (5, ptr hb), (9, .int .i64 i)])
      (fun m i w' => Fr No w11 w' ∧ 0 ≤ i ∧ i ≤ c.c3 ∧ m = (c.c3 - i).toNat)
      (c.c3 - 0).toNat 0 ⟨rfl, rfl, rfl, rfl, trivial⟩ ⟨Fr.refl _ _, Int.le_refl _, (show (0 : Int) ≤ c.c3 by omega), rfl⟩ (fun m i w12 hJ => Kp ?_)
    obtain ⟨f12, i0, i1, hm⟩ := hJ
    have i0 : 0 ≤ i := i0
    have i1 : i ≤ c.c3 := i1
    have hm : m = (c.c3 - i).toNat := hm
    have hT12 := hT11.keep f12 id
    have h12 := h11.keep f12 id
    have b12 := b11.keep f12 id
    have HA12 := HA11.no f12
    refine LdC_blk (h12) rfl ?_
    refine Br_dec (fun g1 => ?_) (fun g1 => ?_)
    · have g1 : i < c.c3 := g1
      obtain ⟨gr, cap, cur, b, hvr, hgr, hcr, hbr⟩ := HA12.h.root i0 (show i < (p.bs.length : Int) by omega)
      rw [er] at hvr
      injection hvr with e1 e2 e3
      subst e1
      have hl : ((newS c).setAcc q11).refs[i.toNat]? = some [] := by
        show (List.replicate c.c3.toNat ([] : List Int))[i.toNat]? = some []
        rw [List.getElem?_replicate, if_pos (by omega)]
      obtain ⟨sv, hS, _, _⟩ := HA12.h.stacks _ b [] hbr hl
      have hx : ((newS c).setAcc q11).bufs[i.toNat]? = some (0, 0) := by
        show (List.replicate c.c3.toNat ((0 : Int), (0 : Int)))[i.toNat]? = some (0, 0)
        rw [List.getElem?_replicate, if_pos (by omega)]
      have hB := HA12.h.buf hx
      have D12 : Fr No w12 w12.drew := Fr.drew w12
      refine AnyC_plan T_ok mixed (planO [0,1,2,3,4,5,6,8,9,1007,10,11,12,13,14,15,16,17,1018,19,20]) ((fun w' => Blk w' hb t_heap_Heap (cfgL c ++ geoC c ++ [ptr p.ab, ptr p.rb, ptr p.ob, ptr p.cb, ptr p.qb, ptr p.sb, ptr p.mb, .slice (some ⟨gr, 0, none⟩) p.bs.length rrc, .slice (some ⟨p.bf, 0, none⟩) c.c3.toNat c.c3.toNat]) ∧ Blk w' p1 t_api_Config (cfgL c) ∧ Blk w' gr t_p_roots_Stack cur)) (by kernel_rfl) (by kernel_rfl) (⟨hT12.keep (Fr.drew _) id, h12.keep (Fr.drew _) id, hgr.keep (Fr.drew _) id⟩) (Kp ?_)
      refine LdS_of (fun w' hw => hw.1) rfl (Kp ?_)
      refine Sd_intro (show 0 ≤ i ∧ i < (p.bs.length : Int) by omega) (Kp ?_)
      refine LdS_ofi (fun w' hw => hw.2.2) hcr (Kp ?_)
      refine LdS_of (fun w' hw => hw.2.1) rfl (Kp ?_)
      refine ⟨Kp ?_, trivial⟩
      refine CallC_intro (roots_Room_spec _ (hS.keep D12 id (fun _ _ => id))) (fun v w13 ⟨hv, f13⟩ => ?_)
      subst hv
      have f1213 := D12.no f13
      refine Sd_intro ⟨hT12.keep f1213 id, h12.keep f1213 id, hgr.keep f1213 id⟩ (Kp ?_)
      refine Br_nf (show c.c4 - ((([] : List Int).length : Nat) : Int) = c.c4 by simp) (Kp ?_)
      refine LdS_of (fun w' hw => hw.1) rfl (Kp ?_)
      refine Sd_intro (show 0 ≤ i ∧ i < ((c.c3.toNat : Nat) : Int) by omega) (Kp ?_)
      refine ⟨Kp ?_, trivial⟩
      have hL := Left_spec _ (hB.keep f1213 id)
      rw [show (⟨p.bf, 0 + i.toNat * 2, none⟩ : Addr) = (Addr.mk p.bf 0 none).add (i.toNat * 2) from add_of.symm] at hL
      refine CallC_intro hL (fun v w14 ⟨hv, f14⟩ => ?_)
      have hv : v = .int .i64 0 := hv
      subst hv
      have f1214 := f1213.no f14
      refine Sd_intro ⟨hT12.keep f1214 id, h12.keep f1214 id, hgr.keep f1214 id⟩ (Kp ?_)
      refine ⟨(c.c3 - (i + 1)).toNat, _, by omega, ?_, i + 1, rfl, f12.no f1214, (show 0 ≤ i + 1 by omega), (show i + 1 ≤ c.c3 by omega), rfl⟩
      exact ⟨rfl, rfl, rfl, look_int rfl (wrap_i64 (by omega) (by omega)), trivial⟩
    · have g1 : ¬ i < c.c3 := g1
      refine LdC_blk (b12) rfl ?_
      refine CallC_intro (Row_out c.c1 w12 HA12.h (by omega)) (fun v w13 ⟨hv, f13⟩ => ?_)
      subst hv
      refine CallC_intro (Row_spec 0 w13 (HA12.no f13) ⟨Int.le_refl _, by have := hV.r0; omega⟩) (fun v w14 ⟨_, f14, hv⟩ => ?_)
      have er0 : rowS c ((newS c).setAcc q11) 0 = some [] := row_new c 0
      rw [er0] at hv
      obtain ⟨lv, hv, own⟩ := hv
      subst hv
      obtain ⟨a1, c1, e1⟩ := own_slice own
      subst e1
      refine ⟨rfl, ?_⟩
      exact ((F11.no f12).no f13).trans f14 (fun _ _ e => e) (fun k hk e => old k (Nat.lt_of_lt_of_le hk F5.size) e)
  · have hv : v = .tuple #[geoV 0 0 0 0 0 0, .int .i64 20] := by
      rcases hv with ⟨hn, _⟩ | ⟨_, hv⟩
      · exact absurd hn hV
      · exact hv
    subst hv
    refine NewC_blk (fun p3 w4 e_p3 b4 f4 z4 => ?_)
    refine StN_blk (b4) rfl (Nat.le_of_ble_eq_true rfl) (fun w5 b5 f5 z5 => ?_)
    have f35 : Fr No w3 w5 := f4.new f5 (fun _ _ e => e) (fun k e => by omega)
    have F5 := F3.no f35
    have h5 := h3.keep f35 id
    refine LdN_blk (vs := cfgL c) (h5) rfl rfl ?_
    refine CallC_intro (heap_New_bad c w5 hV) (fun v w6 ⟨hv, f6⟩ => ?_)
    subst hv
    exact ⟨rfl, F5.no f6⟩
end Go.Proofs.Ytdhbpklmkibmbaa
