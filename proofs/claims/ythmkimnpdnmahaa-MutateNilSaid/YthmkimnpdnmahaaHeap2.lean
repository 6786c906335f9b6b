/- Layer 14 (heap): New. -/
import Derived.Test.YthmkimnpdnmahaaHeap1
namespace Go.Proofs.Ythmkimnpdnmahaa
open Go.Vc

def heapV (c : Cfg) (a r o d q s m vr : Value) (bf : Nat) : List Value := cfgL c ++ geoC c ++ [a, r, o, d, q, s, m, vr, .slice (some ⟨bf, 0, none⟩) c.c3.toNat c.c3.toNat]
def nilp : Value := .pointer none
def newS (c : Cfg) : HS where
  acc := 0
  ws := List.replicate (c.c1 * P c).toNat 0
  rs := zeros7 c.c1.toNat
  back := List.replicate (c.c1 * P c / Q c).toNat 0
  cards := fun _ => false
  common := []
  own := List.replicate c.c3.toNat []
  marks := fun _ => false
  refs := List.replicate c.c3.toNat []
  bufs := List.replicate c.c3.toNat (0, 0)
theorem zerosB (n : Nat) : zerosR (n * 2) [.int .i64 0, .int .i64 0] = bufL (List.replicate n (0, 0)) := by
  induction n with
  | zero => rfl
  | succ n ih =>
    have e : bufL (List.replicate (n + 1) (0, 0)) = bufL (List.replicate n (0, 0)) ++ [.int .i64 0, .int .i64 0] := by
      rw [List.replicate_succ']; simp [bufL]
    rw [e, ← ih]
    unfold zerosR
    rw [show (n + 1) * 2 = n * 2 + 1 + 1 by omega, List.range_succ, List.range_succ]
    have es : (([.int .i64 0, .int .i64 0] : List Value).toArray).size = 2 := rfl
    simp only [List.map_append, List.map_cons, List.map_nil, List.append_assoc, es]
    rw [show n * 2 % 2 = 0 by omega, show (n * 2 + 1) % 2 = 1 by omega]
    rfl
/-- The parts that New lays ahead of the stacks. -/
def Rest7 (w : World) (z : Nat → Nat) (c : Cfg) (ab rb ob cb qb sb mb : Nat) : Prop :=
  ArenaIn w z 2 ab 0 (newS c).ws ∧ RegIn w z 3 rb (P c) (newS c).rs ∧ OffsIn w z 4 ob (c.c1 * P c) (Q c) (newS c).back ∧ CardsIn w z 5 cb (c.c1 * P c / Q c) (newS c).cards ∧
    QueueIn w z 6 200 qb c.c9 (newS c).common (newS c).own ∧ SetsIn w z 7 sb c.c1 (P c / Q c) ∧ MarksIn w z 8 mb (c.c1 * P c) (newS c).marks
theorem Rest7.mv {w w' : World} {z z' : Nat → Nat} {S : Nat → Prop} {c : Cfg} {ab rb ob cb qb sb mb : Nat} (h : Rest7 w z c ab rb ob cb qb sb mb) (m : Mv z z' S w w') (hn : ∀ i, (2 ≤ i ∧ i ≤ 8) ∨ 200 ≤ i → ¬ S i) : Rest7 w' z' c ab rb ob cb qb sb mb :=
  ⟨h.1.mv m (hn _ (by omega)), h.2.1.mv m (hn _ (by omega)), h.2.2.1.mv m (hn _ (by omega)), h.2.2.2.1.mv m (hn _ (by omega)), h.2.2.2.2.1.mv m (hn _ (by omega)) (fun t _ => hn _ (by omega)), h.2.2.2.2.2.1.mv m (hn _ (by omega)), h.2.2.2.2.2.2.mv m (hn _ (by omega))⟩
set_option maxHeartbeats 2000000 in
theorem heap_New_spec (c : Cfg) (w : World) (hV : Valid c) : CallC Pr f_heap_New [cfgV c] w (fun v w' =>
    ∃ hb p z, v = .tuple #[ptr hb, .int .i64 0] ∧ HeapAt w' z c hb p (newS c) ∧ (∀ k, z k < 300) ∧ (∀ k, k < w.heap.size → z k = 0) ∧ Fr No w w') := by
  have hp := P_le hV
  have hr0 := hV.r0
  have hr1 := hV.r1
  have c3 : 1 ≤ c.c3 ∧ c.c3 ≤ 64 := hV.ls 1 _ rfl
  have c4 : 1 ≤ c.c4 ∧ c.c4 ≤ 64 := hV.ls 2 _ rfl
  have c9 : 0 ≤ c.c9 ∧ c.c9 ≤ 65536 := hV.ls 7 _ rfl
  refine call_sound T_ok fun_heap_New rfl (by kernel_rfl) rfl (Kp ?_)
  refine NewC_blk (fun p1 w1 hp1 h1 f1 s1 => ?_)
  have h1 : Blk w1 p1 t_api_Config (cfgL c) := h1
  refine LdN_blk (vs := cfgL c) h1 rfl rfl ?_
  refine CallC_intro (geom_New_spec c w1) (fun v w2 ⟨hv, f2⟩ => ?_)
  have hv : v = .tuple #[.agg (geoC c).toArray, .int .i64 0] := by
    rcases hv with ⟨_, hv⟩ | ⟨hn, _⟩
    · exact hv
    · exact absurd hV hn
  subst hv
  refine NewC_blk (fun g w3 hg h3 f3 s3 => ?_)
  refine StN_blk h3 rfl (Nat.le_refl 6) (fun w4 h4 f4 s4 => ?_)
  have h4 : Blk w4 g t_geom_Geom (geoC c) := h4
  have f34 : Fr No w2 w4 := f3.new f4 (fun _ _ e => e) (fun k e => by omega)
  have f14 := f2.no f34
  have h1 := h1.keep f14 id
  have f04 := f1.no f14
  refine AnyC_ord [0,1,2,3,1004,5,1006,7] T_ok mixed (by kernel_rfl) (by kernel_rfl) ?_
  refine LdSN_blk (vs := cfgL c) h1 rfl rfl ?_
  refine LdSN_blk (vs := geoC c) h4 rfl rfl ?_
  refine LdS_blk h1 rfl ?_
  refine ⟨?_, trivial⟩
  refine MkN T_ok (n := c.c3) rfl rfl (by omega) (by omega) (show (16 : Int) * c.c3 ≤ _ by omega) (show c.c3.toNat * 2 ≠ 0 by omega) (fun bf w5 hbf h5 f5 s5 => ?_)
  have f5 := (Fr.drew w4).no f5
  refine Sd_intro f5.old ?_
  refine ⟨?_, trivial⟩
  refine NewC_blk (fun hb w6 hhb h6 f6 s6 => ?_)
  have f46 := f5.no f6
  refine Sd_intro f46.old ?_
  have h6 : Blk w6 hb t_heap_Heap (heapV c nilp nilp nilp nilp nilp nilp nilp (.slice none 0 0) bf) := h6
  have h5 : Blk w5 bf t_buffer_Buffer (zerosR (c.c3.toNat * 2) [.int .i64 0, .int .i64 0]) := h5
  rw [zerosB] at h5
  have h4 := h4.keep f46 id
  have h1 := h1.keep f46 id
  have F6 := f04.no f46
  have n0 : 0 ≤ c.c1 * P c / Q c := Int.ediv_nonneg (by omega) (by omega)
  have n1 : c.c1 * P c / Q c ≤ 4194304 := by have := Int.ediv_le_self (a := c.c1 * P c) (Q c) (by omega); omega
  have hq : P c ≤ 4194304 / c.c1 := by
    rw [Int.le_ediv_iff_mul_le (by omega), Int.mul_comm]; omega
  have hm : P c % Q c = 0 := by
    have := hV.cs; unfold P Q; rw [pow_split (show c.c2.toNat ≤ c.c0.toNat by omega)]; exact Int.mul_emod_right _ _
  have k1 := f1.size
  have k2 := f14.size
  have k3 := f46.size
  have k5 := f5.size
  have ne1 : p1 ≠ hb := by omega
  have lg := h4.lt
  have ne4 : g ≠ hb := by have := f34.size; omega
  have neb : bf ≠ hb := by omega
  have z6 : ∃ z : Nat → Nat, z hb = 1 ∧ z bf = 10 ∧ (∀ k, z k < 300) ∧ ∀ k, k < w.heap.size → z k = 0 := ⟨zput (zput (fun _ => 0) hb 1) bf 10, by rw [zput_ne (Ne.symm neb), zput_self], zput_self, zput_lt (zput_lt (fun _ => by decide) (by decide)) (by decide), fun k hk => by rw [zput_ne (by omega), zput_ne (by omega)]⟩
  obtain ⟨z, zh, zb, zl, z0⟩ := z6
  have hB := h5.keep f6 id
  have hT := h6
  have gh : w.heap.size ≤ hb := by omega
  refine LdC_blk h4 rfl ?_
  refine CallC_intro (arena_New_spec (c.c1 * P c) w6 (by omega) (by omega)) (fun v wAa ⟨ab, ar, hv, hX, f, g0, g1⟩ => ?_)
  subst hv
  obtain ⟨za, zla, mAa, ya0, ya1⟩ : ∃ z' : Nat → Nat, (∀ k, z' k < 300) ∧ Mv z z' (fun _ => False) w6 wAa ∧ z' ab = 2 ∧ z' ar = 2 := ⟨(zput (zput z ab 2) ar 2), (zput_lt (zput_lt zl (by decide)) (by decide)), ((Mv.of (z := z) (S := fun _ => False) f).put g0).put g1, (zput_keep zput_self), zput_self⟩
  have Ca0 : ArenaIn wAa za 2 ab 0 (newS c).ws := ⟨ar, hX, ya0, ya1⟩
  have Ta0 := hT.mv zh mAa id
  have Ba0 := hB.mv zb mAa id
  have h1a0 := h1.keep f id
  have h4a0 := h4.keep f id
  have FFa0 := F6.no f
  have z0a : ∀ k, k < w.heap.size → za k = 0 := fun k hk => (mAa.zs k (Nat.lt_of_lt_of_le hk F6.size)).trans (z0 k hk)
  refine StC_blk Ta0.1 rfl rfl (fun wBa tB fB _ => ?_)
  have tB : Blk wBa hb t_heap_Heap (heapV c (ptr ab) nilp nilp nilp nilp nilp nilp (.slice none 0 0) bf) := tB
  have mBa : Mv za za (· = 1) wAa wBa := Mv.ofZ fB (fun k _ e => by rw [e]; exact Ta0.2)
  have Ta := tB
  have zha := Ta0.2
  have Bma := Ba0.1.mv Ba0.2 mBa (by decide)
  have Ba := Bma.1
  have zba := Bma.2
  have h1a := h1a0.keep fB ne1
  have h4a := h4a0.keep fB ne4
  have Ca := Ca0.mv mBa (by decide)
  have FFa : Fr No w wBa := FFa0.new fB (fun _ _ e => e) (fun k e => by rw [e]; exact gh)
  refine LdN_blk (vs := geoC c) h4a rfl rfl ?_
  refine CallC_intro (region_New_gen (c.c1 * P c) (P c) (Q c) c.c1 (c.c1 * P c / Q c) (min 1048576 (c.c1 * P c - P c)) wBa (by omega) (by omega) (by omega) hq rfl (by omega)) (fun v wAr ⟨rb, rr, hv, hX, f, g0, g1⟩ => ?_)
  subst hv
  obtain ⟨zr, zlr, mAr, yr0, yr1⟩ : ∃ z' : Nat → Nat, (∀ k, z' k < 300) ∧ Mv za z' (fun _ => False) wBa wAr ∧ z' rb = 3 ∧ z' rr = 3 := ⟨(zput (zput za rb 3) rr 3), (zput_lt (zput_lt zla (by decide)) (by decide)), ((Mv.of (z := za) (S := fun _ => False) f).put g0).put g1, (zput_keep zput_self), zput_self⟩
  have Cr0 : RegIn wAr zr 3 rb (P c) (newS c).rs := ⟨rr, hX, yr0, yr1⟩
  have Tr0 := Ta.mv zha mAr id
  have Br0 := Ba.mv zba mAr id
  have h1r0 := h1a.keep f id
  have h4r0 := h4a.keep f id
  have Car := Ca.mv mAr id
  have FFr0 := FFa.no f
  have z0r : ∀ k, k < w.heap.size → zr k = 0 := fun k hk => (mAr.zs k (Nat.lt_of_lt_of_le hk FFa.size)).trans (z0a k hk)
  refine StC_blk Tr0.1 rfl rfl (fun wBr tB fB _ => ?_)
  have tB : Blk wBr hb t_heap_Heap (heapV c (ptr ab) (ptr rb) nilp nilp nilp nilp nilp (.slice none 0 0) bf) := tB
  have mBr : Mv zr zr (· = 1) wAr wBr := Mv.ofZ fB (fun k _ e => by rw [e]; exact Tr0.2)
  have Tr := tB
  have zhr := Tr0.2
  have Bmr := Br0.1.mv Br0.2 mBr (by decide)
  have Br := Bmr.1
  have zbr := Bmr.2
  have h1r := h1r0.keep fB ne1
  have h4r := h4r0.keep fB ne4
  replace Ca := Car.mv mBr (by decide)
  have Cr := Cr0.mv mBr (by decide)
  have FFr : Fr No w wBr := FFr0.new fB (fun _ _ e => e) (fun k e => by rw [e]; exact gh)
  refine LdN_blk (vs := geoC c) h4r rfl rfl ?_
  refine CallC_intro (offs_New_spec (c.c1 * P c) (P c) (Q c) c.c1 (c.c1 * P c / Q c) (min 1048576 (c.c1 * P c - P c)) wBr (by omega) (by omega) (by omega) rfl) (fun v wAo ⟨ob, orr, hv, hX, f, g0, g1⟩ => ?_)
  subst hv
  obtain ⟨zo, zlo, mAo, yo0, yo1⟩ : ∃ z' : Nat → Nat, (∀ k, z' k < 300) ∧ Mv zr z' (fun _ => False) wBr wAo ∧ z' ob = 4 ∧ z' orr = 4 := ⟨(zput (zput zr ob 4) orr 4), (zput_lt (zput_lt zlr (by decide)) (by decide)), ((Mv.of (z := zr) (S := fun _ => False) f).put g0).put g1, (zput_keep zput_self), zput_self⟩
  have Co0 : OffsIn wAo zo 4 ob (c.c1 * P c) (Q c) (newS c).back := ⟨orr, hX, yo0, yo1⟩
  have To0 := Tr.mv zhr mAo id
  have Bo0 := Br.mv zbr mAo id
  have h1o0 := h1r.keep f id
  have h4o0 := h4r.keep f id
  have Cao := Ca.mv mAo id
  have Cro := Cr.mv mAo id
  have FFo0 := FFr.no f
  have z0o : ∀ k, k < w.heap.size → zo k = 0 := fun k hk => (mAo.zs k (Nat.lt_of_lt_of_le hk FFr.size)).trans (z0r k hk)
  refine StC_blk To0.1 rfl rfl (fun wBo tB fB _ => ?_)
  have tB : Blk wBo hb t_heap_Heap (heapV c (ptr ab) (ptr rb) (ptr ob) nilp nilp nilp nilp (.slice none 0 0) bf) := tB
  have mBo : Mv zo zo (· = 1) wAo wBo := Mv.ofZ fB (fun k _ e => by rw [e]; exact To0.2)
  have To := tB
  have zho := To0.2
  have Bmo := Bo0.1.mv Bo0.2 mBo (by decide)
  have Bo := Bmo.1
  have zbo := Bmo.2
  have h1o := h1o0.keep fB ne1
  have h4o := h4o0.keep fB ne4
  replace Ca := Cao.mv mBo (by decide)
  replace Cr := Cro.mv mBo (by decide)
  have Co := Co0.mv mBo (by decide)
  have FFo : Fr No w wBo := FFo0.new fB (fun _ _ e => e) (fun k e => by rw [e]; exact gh)
  refine LdN_blk (vs := geoC c) h4o rfl rfl ?_
  refine CallC_intro (cards_New_spec (c.c1 * P c) (P c) (Q c) c.c1 (c.c1 * P c / Q c) (min 1048576 (c.c1 * P c - P c)) wBo n0 n1) (fun v wAc ⟨cb, cs, cr, hv, hX, f, g0, g1, g2⟩ => ?_)
  subst hv
  obtain ⟨zc, zlc, mAc, yc0, yc1, yc2⟩ : ∃ z' : Nat → Nat, (∀ k, z' k < 300) ∧ Mv zo z' (fun _ => False) wBo wAc ∧ z' cb = 5 ∧ z' cs = 5 ∧ z' cr = 5 := ⟨(zput (zput (zput zo cb 5) cs 5) cr 5), (zput_lt (zput_lt (zput_lt zlo (by decide)) (by decide)) (by decide)), (((Mv.of (z := zo) (S := fun _ => False) f).put g0).put g1).put g2, (zput_keep (zput_keep zput_self)), (zput_keep zput_self), zput_self⟩
  have Cc0 : CardsIn wAc zc 5 cb (c.c1 * P c / Q c) (newS c).cards := ⟨cs, cr, hX, yc0, yc1, yc2⟩
  have Tc0 := To.mv zho mAc id
  have Bc0 := Bo.mv zbo mAc id
  have h1c0 := h1o.keep f id
  have h4c0 := h4o.keep f id
  have Cac := Ca.mv mAc id
  have Crc := Cr.mv mAc id
  have Coc := Co.mv mAc id
  have FFc0 := FFo.no f
  have z0c : ∀ k, k < w.heap.size → zc k = 0 := fun k hk => (mAc.zs k (Nat.lt_of_lt_of_le hk FFo.size)).trans (z0o k hk)
  refine StC_blk Tc0.1 rfl rfl (fun wBc tB fB _ => ?_)
  have tB : Blk wBc hb t_heap_Heap (heapV c (ptr ab) (ptr rb) (ptr ob) (ptr cb) nilp nilp nilp (.slice none 0 0) bf) := tB
  have mBc : Mv zc zc (· = 1) wAc wBc := Mv.ofZ fB (fun k _ e => by rw [e]; exact Tc0.2)
  have Tc := tB
  have zhc := Tc0.2
  have Bmc := Bc0.1.mv Bc0.2 mBc (by decide)
  have Bc := Bmc.1
  have zbc := Bmc.2
  have h1c := h1c0.keep fB ne1
  have h4c := h4c0.keep fB ne4
  replace Ca := Cac.mv mBc (by decide)
  replace Cr := Crc.mv mBc (by decide)
  replace Co := Coc.mv mBc (by decide)
  have Cc := Cc0.mv mBc (by decide)
  have FFc : Fr No w wBc := FFc0.new fB (fun _ _ e => e) (fun k e => by rw [e]; exact gh)
  refine LdC_blk h1c rfl ?_
  refine LdC_blk h1c rfl ?_
  refine CallC_intro (queue_New_spec c.c3 c.c9 wBc c3.1 c3.2 c9.1 c9.2) (fun v wAq ⟨qb, qr, hv, hX, hX2, f, g0, g1, hne⟩ => ?_)
  subst hv
  obtain ⟨zq, zlq, mAq, yq0, yq1⟩ : ∃ z' : Nat → Nat, (∀ k, z' k < 300) ∧ Mv zc z' (fun _ => False) wBc wAq ∧ z' qb = 6 ∧ z' qr = 6 := ⟨(zput (zput zc qb 6) qr 6), (zput_lt (zput_lt zlc (by decide)) (by decide)), ((Mv.of (z := zc) (S := fun _ => False) f).put g0).put g1, (zput_keep zput_self), zput_self⟩
  have Cq0 : QueueIn wAq zq 6 200 qb c.c9 (newS c).common (newS c).own := by
    refine ⟨qr, .slice none 0 0, List.replicate c.c3.toNat (.slice none 0 0), by show Blk _ _ _ [_, _, .slice _ (List.replicate c.c3.toNat ([] : List Int)).length (List.replicate c.c3.toNat ([] : List Int)).length]; rw [List.length_replicate]; exact hX, hX2, by show _ = (List.replicate c.c3.toNat ([] : List Int)).length; rw [List.length_replicate, List.length_replicate], yq0, yq1, World.ownsRow_nil _ _ _ _, fun k hk => (by cases hk), fun t v l hv hl => ?_⟩
    have := (List.mem_replicate.1 (List.mem_of_getElem? hv)).2
    subst this
    have := (List.mem_replicate.1 (List.mem_of_getElem? hl)).2
    subst this
    exact ⟨World.ownsRow_nil _ _ _ _, fun k hk => (by cases hk)⟩
  have Tq0 := Tc.mv zhc mAq id
  have Bq0 := Bc.mv zbc mAq id
  have h1q0 := h1c.keep f id
  have h4q0 := h4c.keep f id
  have Caq := Ca.mv mAq id
  have Crq := Cr.mv mAq id
  have Coq := Co.mv mAq id
  have Ccq := Cc.mv mAq id
  have FFq0 := FFc.no f
  have z0q : ∀ k, k < w.heap.size → zq k = 0 := fun k hk => (mAq.zs k (Nat.lt_of_lt_of_le hk FFc.size)).trans (z0c k hk)
  refine StC_blk Tq0.1 rfl rfl (fun wBq tB fB _ => ?_)
  have tB : Blk wBq hb t_heap_Heap (heapV c (ptr ab) (ptr rb) (ptr ob) (ptr cb) (ptr qb) nilp nilp (.slice none 0 0) bf) := tB
  have mBq : Mv zq zq (· = 1) wAq wBq := Mv.ofZ fB (fun k _ e => by rw [e]; exact Tq0.2)
  have Tq := tB
  have zhq := Tq0.2
  have Bmq := Bq0.1.mv Bq0.2 mBq (by decide)
  have Bq := Bmq.1
  have zbq := Bmq.2
  have h1q := h1q0.keep fB ne1
  have h4q := h4q0.keep fB ne4
  replace Ca := Caq.mv mBq (by decide)
  replace Cr := Crq.mv mBq (by decide)
  replace Co := Coq.mv mBq (by decide)
  replace Cc := Ccq.mv mBq (by decide)
  have Cq := Cq0.mv mBq (by decide) (fun t _ => by omega)
  have FFq : Fr No w wBq := FFq0.new fB (fun _ _ e => e) (fun k e => by rw [e]; exact gh)
  refine LdN_blk (vs := geoC c) h4q rfl rfl ?_
  refine CallC_intro (remset_New_spec (c.c1 * P c) (P c) (Q c) c.c1 (c.c1 * P c / Q c) (min 1048576 (c.c1 * P c - P c)) wBq (by omega) (by omega) (by omega) (by omega) hq hm rfl (by omega) rfl) (fun v wAs ⟨sb, m1, m2, m3, hv, hX, hM1, hM2, hM3, f, g0, g1, g2, g3⟩ => ?_)
  subst hv
  obtain ⟨zs, zls, mAs, ys0, ys1, ys2, ys3⟩ : ∃ z' : Nat → Nat, (∀ k, z' k < 300) ∧ Mv zq z' (fun _ => False) wBq wAs ∧ z' sb = 7 ∧ z' m1 = 7 ∧ z' m2 = 7 ∧ z' m3 = 7 := ⟨(zput (zput (zput (zput zq sb 7) m1 7) m2 7) m3 7), (zput_lt (zput_lt (zput_lt (zput_lt zlq (by decide)) (by decide)) (by decide)) (by decide)), ((((Mv.of (z := zq) (S := fun _ => False) f).put g0).put g1).put g2).put g3, (zput_keep (zput_keep (zput_keep zput_self))), (zput_keep (zput_keep zput_self)), (zput_keep zput_self), zput_self⟩
  have Cs0 : SetsIn wAs zs 7 sb c.c1 (P c / Q c) := ⟨m1, m2, m3, _, _, _, _, _, _, hX, hM1, hM2, hM3, ys0, ys1, ys2, ys3⟩
  have Ts0 := Tq.mv zhq mAs id
  have Bs0 := Bq.mv zbq mAs id
  have h1s0 := h1q.keep f id
  have h4s0 := h4q.keep f id
  have Cas := Ca.mv mAs id
  have Crs := Cr.mv mAs id
  have Cos := Co.mv mAs id
  have Ccs := Cc.mv mAs id
  have Cqs := Cq.mv mAs id (fun _ _ => id)
  have FFs0 := FFq.no f
  have z0s : ∀ k, k < w.heap.size → zs k = 0 := fun k hk => (mAs.zs k (Nat.lt_of_lt_of_le hk FFq.size)).trans (z0q k hk)
  refine StC_blk Ts0.1 rfl rfl (fun wBs tB fB _ => ?_)
  have tB : Blk wBs hb t_heap_Heap (heapV c (ptr ab) (ptr rb) (ptr ob) (ptr cb) (ptr qb) (ptr sb) nilp (.slice none 0 0) bf) := tB
  have mBs : Mv zs zs (· = 1) wAs wBs := Mv.ofZ fB (fun k _ e => by rw [e]; exact Ts0.2)
  have Ts := tB
  have zhs := Ts0.2
  have Bms := Bs0.1.mv Bs0.2 mBs (by decide)
  have Bs := Bms.1
  have zbs := Bms.2
  have h1s := h1s0.keep fB ne1
  have h4s := h4s0.keep fB ne4
  replace Ca := Cas.mv mBs (by decide)
  replace Cr := Crs.mv mBs (by decide)
  replace Co := Cos.mv mBs (by decide)
  replace Cc := Ccs.mv mBs (by decide)
  replace Cq := Cqs.mv mBs (by decide) (fun t _ => by omega)
  have Cs := Cs0.mv mBs (by decide)
  have FFs : Fr No w wBs := FFs0.new fB (fun _ _ e => e) (fun k e => by rw [e]; exact gh)
  refine LdC_blk h4s rfl ?_
  refine CallC_intro (bits_New_spec (c.c1 * P c) wBs (by omega) (by omega)) (fun v wAm ⟨mb, mr, hv, hX, f, g0, g1⟩ => ?_)
  subst hv
  obtain ⟨zm, zlm, mAm, ym0, ym1⟩ : ∃ z' : Nat → Nat, (∀ k, z' k < 300) ∧ Mv zs z' (fun _ => False) wBs wAm ∧ z' mb = 8 ∧ z' mr = 8 := ⟨(zput (zput zs mb 8) mr 8), (zput_lt (zput_lt zls (by decide)) (by decide)), ((Mv.of (z := zs) (S := fun _ => False) f).put g0).put g1, (zput_keep zput_self), zput_self⟩
  have Cm0 : MarksIn wAm zm 8 mb (c.c1 * P c) (newS c).marks := ⟨mr, hX, ym0, ym1⟩
  have Tm0 := Ts.mv zhs mAm id
  have Bm0 := Bs.mv zbs mAm id
  have h1m0 := h1s.keep f id
  have h4m0 := h4s.keep f id
  have Cam := Ca.mv mAm id
  have Crm := Cr.mv mAm id
  have Com := Co.mv mAm id
  have Ccm := Cc.mv mAm id
  have Cqm := Cq.mv mAm id (fun _ _ => id)
  have Csm := Cs.mv mAm id
  have FFm0 := FFs.no f
  have z0m : ∀ k, k < w.heap.size → zm k = 0 := fun k hk => (mAm.zs k (Nat.lt_of_lt_of_le hk FFs.size)).trans (z0s k hk)
  refine StC_blk Tm0.1 rfl rfl (fun wBm tB fB _ => ?_)
  have tB : Blk wBm hb t_heap_Heap (heapV c (ptr ab) (ptr rb) (ptr ob) (ptr cb) (ptr qb) (ptr sb) (ptr mb) (.slice none 0 0) bf) := tB
  have mBm : Mv zm zm (· = 1) wAm wBm := Mv.ofZ fB (fun k _ e => by rw [e]; exact Tm0.2)
  have Tm := tB
  have zhm := Tm0.2
  have Bmm := Bm0.1.mv Bm0.2 mBm (by decide)
  have Bm := Bmm.1
  have zbm := Bmm.2
  have h1m := h1m0.keep fB ne1
  have h4m := h4m0.keep fB ne4
  replace Ca := Cam.mv mBm (by decide)
  replace Cr := Crm.mv mBm (by decide)
  replace Co := Com.mv mBm (by decide)
  replace Cc := Ccm.mv mBm (by decide)
  replace Cq := Cqm.mv mBm (by decide) (fun t _ => by omega)
  replace Cs := Csm.mv mBm (by decide)
  have Cm := Cm0.mv mBm (by decide)
  have FFm : Fr No w wBm := FFm0.new fB (fun _ _ e => e) (fun k e => by rw [e]; exact gh)
  refine LdC_blk h1m rfl ?_
  refine LoopC_intro (α := Int) (fun i => [(1, ptr p1), (6, ptr hb), (86, .int .i64 c.c3), (87, .int .i64 i)])
    (fun m i w' => ∃ (z' : Nat → Nat) (vr : Value) (bs : List Nat), (bs.length : Int) = i ∧ (Blk w' hb t_heap_Heap (heapV c (ptr ab) (ptr rb) (ptr ob) (ptr cb) (ptr qb) (ptr sb) (ptr mb) vr bf) ∧ z' hb = 1) ∧
      (Blk w' bf t_buffer_Buffer (bufL (List.replicate c.c3.toNat (0, 0))) ∧ z' bf = 10) ∧ Rest7 w' z' c ab rb ob cb qb sb mb ∧
      (w'.ownsRow 0 t_p_roots_Stack 1 vr bs.length (bs.map ptr) ∧ ∀ k, vr.ownBlock = some k → z' k = 9) ∧ (∀ (t b : Nat), bs[t]? = some b → StackIn w' z' (100 + t) b c.c4 []) ∧
      Fr No w w' ∧ (∀ k, z' k < 300) ∧ (∀ k, k < w.heap.size → z' k = 0) ∧ Blk w' p1 t_api_Config (cfgL c) ∧ 0 ≤ i ∧ i ≤ c.c3 ∧ m = (c.c3 - i).toNat)
    (c.c3 - 0 : Int).toNat 0 ⟨rfl, rfl, rfl, rfl, trivial⟩ ⟨zm, .slice none 0 0, [], rfl, ⟨Tm, zhm⟩, ⟨Bm, zbm⟩, ⟨Ca, Cr, Co, Cc, Cq, Cs, Cm⟩, ⟨World.ownsRow_nil _ _ _ _, fun k hk => (by cases hk)⟩, fun t b h => (by cases h), FFm, zlm, z0m, h1m, Int.le_refl _, (show (0 : Int) ≤ c.c3 by omega), rfl⟩ (fun m i w7 hJ => Kp ?_)
  obtain ⟨z7, vr, bs, hbs, ⟨T7, zh7⟩, ⟨B7, zb7⟩, C7, ⟨O7, zo7⟩, S7, F7, zl7, z07, h17, i0, i1, hm7⟩ := hJ
  have i0 : 0 ≤ i := i0
  have i1 : i ≤ c.c3 := i1
  refine Br_dec (fun g => ?_) (fun g => ?_)
  · have g : i < c.c3 := g
    refine LdC_blk h17 rfl ?_
    refine CallC_intro (roots_New_spec c.c4 w7 c4.1 c4.2) (fun v w8 ⟨b, hv, hS, f8, hb8, s8⟩ => ?_)
    subst hv
    have mm8 : Mv z7 (zput z7 b (100 + bs.length)) (fun _ => False) w7 w8 := (Mv.of f8).put (by omega)
    obtain ⟨z8, zl8, m8, y8⟩ : ∃ z' : Nat → Nat, (∀ k, z' k < 300) ∧ Mv z7 z' (fun _ => False) w7 w8 ∧ z' b = 100 + bs.length := ⟨_, zput_lt zl7 (by omega), mm8, zput_self⟩
    have St8 : StackIn w8 z8 (100 + bs.length) b c.c4 [] := ⟨_, hS, y8, fun k hk => (by cases hk)⟩
    have T8 := T7.mv zh7 m8 id
    have B8 := B7.mv zb7 m8 id
    have C8 := C7.mv m8 (fun _ _ => id)
    have O8 := own_mv O7 zo7 m8 id
    have S8 : ∀ (t q : Nat), bs[t]? = some q → StackIn w8 z8 (100 + t) q c.c4 [] := fun t q h => (S7 t q h).mv m8 id
    have h18 := h17.keep f8 id
    refine LdC_blk T8.1 rfl ?_
    refine NewC_blk (fun p9 w9 hp9 h9 f9 _ => ?_)
    have m9 : Mv z8 z8 (fun _ => False) w8 w9 := Mv.of f9
    refine ApL T_ok (e := t_p_roots_Stack) rfl rfl rfl (by decide) (own_keepV O8.1 f9 (fun _ _ => id)) (Nat.zero_le _) h9 (news := [ptr b]) rfl rfl rfl (by omega) (show (bs.length + 1) * 8 ≤ 140737488355328 by omega) (fun v' w10 o10 f10 l10 => ?_)
    have m10 : Mv z8 z8 (· = 9) w9 w10 := Mv.ofZ f10 (fun k hk e => O8.2 k e)
    have m810 : Mv z8 z8 (· = 9) w8 w10 := m9.trans m10 (fun _ e => e.elim) (fun _ e => e)
    refine own_slice o10 |>.elim fun a10 ⟨c10, e10⟩ => ?_
    subst e10
    have T10 := T8.1.mv T8.2 m810 (by decide)
    refine StC_blk T10.1 rfl rfl (fun w11 h11 f11 _ => ?_)
    have h11 : Blk w11 hb t_heap_Heap (heapV c (ptr ab) (ptr rb) (ptr ob) (ptr cb) (ptr qb) (ptr sb) (ptr mb) (.slice a10 (bs.length + 1) c10) bf) := h11
    have m11 : Mv z8 z8 (· = 1) w10 w11 := Mv.ofZ f11 (fun k _ e => by rw [e]; exact T8.2)
    have lo : ∀ k, (Value.slice a10 (bs.length + 1) c10).ownBlock = some k → z8 k = 9 ∨ w9.heap.size ≤ k := fun k hk => by
      rcases l10 with e | e
      · exact .inl (O8.2 k (by rw [← e]; exact hk))
      · rw [hk] at e; injection e with e; exact .inr (by omega)
    have Z11 : ∃ z' : Nat → Nat, (∀ k, z' k < 300) ∧ Mv z8 z' (fun i => i = 9 ∨ i = 1) w8 w11 ∧ ∀ k, (Value.slice a10 (bs.length + 1) c10).ownBlock = some k → z' k = 9 := by
      have mt : Mv z8 z8 (fun i => i = 9 ∨ i = 1) w8 w11 := m810.trans m11 (fun _ e => .inl e) (fun _ e => .inr e)
      rcases hob : (Value.slice a10 (bs.length + 1) c10).ownBlock with _ | k
      · exact ⟨z8, zl8, mt, fun k hk => (by cases hk)⟩
      · rcases lo k hob with e | e
        · exact ⟨z8, zl8, mt, fun k' hk => by injection hk with hk; rw [← hk]; exact e⟩
        · exact ⟨zput z8 k 9, zput_lt zl8 (by decide), mt.put (Nat.le_trans f9.size e), fun k' hk => by injection hk with hk; rw [← hk]; exact zput_self⟩
    obtain ⟨z11, zl11, M11, zo11⟩ := Z11
    have T11 : Blk w11 hb t_heap_Heap (heapV c (ptr ab) (ptr rb) (ptr ob) (ptr cb) (ptr qb) (ptr sb) (ptr mb) (.slice a10 (bs.length + 1) c10) bf) ∧ z11 hb = 1 := ⟨h11, (M11.zs hb T8.1.lt).trans T8.2⟩
    have B11 := B8.1.mv B8.2 M11 (by decide)
    have C11 := C8.mv M11 (fun i hi e => by omega)
    have sb8 : b < w8.heap.size := by omega
    have F11 : Fr No w w11 := by
      have f811 := M11.fr
      have f07 : Fr No w w8 := F7.no f8
      refine f07.trans f811 (fun _ _ e => e) (fun k hk e => ?_)
      have e : z8 k = 9 ∨ z8 k = 1 := e
      have zz : z8 k = z7 k := m8.zs k (Nat.lt_of_lt_of_le hk F7.size)
      rw [zz, z07 k hk] at e
      rcases e with e | e <;> cases e
    have F1811 : Fr (fun k => vr.ownBlock = some k ∨ k = hb) w8 w11 := f9.noL (f10.trans f11 (fun _ _ e => .inl e) (fun _ _ e => .inr e))
    refine ⟨(c.c3 - (i + 1)).toNat, _, by omega, ?_, i + 1, rfl, z11, .slice a10 (bs.length + 1) c10, bs ++ [b], ?_, T11, B11, C11, ⟨?_, zo11⟩, ?_, F11, zl11, ?_, h18.keep F1811 ?_, by omega, by omega, rfl⟩
    · exact ⟨rfl, rfl, rfl, look_int rfl (wrap_i64 (by omega) (by omega)), trivial⟩
    · rw [List.length_append]; show ((bs.length + 1 : Nat) : Int) = i + 1; omega
    · rw [List.length_append, List.map_append]
      exact own_keepV o10 f11 (fun k hk e => by
        have e : k = hb := e
        subst e
        rcases lo k hk with e | e
        · rw [T8.2] at e; cases e
        · have := T8.1.lt; have := f9.size; omega)
    · intro t q h
      rcases Nat.lt_or_ge t bs.length with ht | ht
      · rw [List.getElem?_append_left ht] at h
        exact (S8 t q h).mv M11 (fun e => by omega)
      · rw [List.getElem?_append_right ht] at h
        have : t - bs.length = 0 := by
          rcases Nat.eq_zero_or_pos (t - bs.length) with e | e
          · exact e
          · rw [List.getElem?_eq_none (by simp; omega)] at h; cases h
        rw [this] at h
        injection h with h
        subst h
        rw [show t = bs.length by omega]
        exact St8.mv M11 (fun e => by omega)
    · intro k hk
      have : k < w7.heap.size := Nat.lt_of_lt_of_le hk F7.size
      rw [M11.zs k (Nat.lt_of_lt_of_le this f8.size), m8.zs k this]; exact z07 k hk
    · intro e
      rcases e with e | e
      · obtain ⟨cur, hc, _⟩ := own_blk O8.1 p1 e
        have := (h18.inj hc).2
        cases this
      · exact ne1 e
  · have g : ¬ i < c.c3 := g
    have ei : (bs.length : Int) = c.c3 := by omega
    have en : bs.length = c.c3.toNat := by omega
    obtain ⟨Ca, Cr, Co, Cc, Cq, Cs, Cm⟩ := C7
    refine ⟨hb, ⟨ab, rb, ob, cb, qb, sb, mb, bf, vr, bs⟩, z7, rfl, ⟨hV, T7, zh7, Ca, ?_, Cr, ?_, Co, Cc, Cq, ?_, Cs, Cm, O7, zo7, ei, ?_, ?_, B7, zb7, ?_⟩, zl7, z07, F7⟩
    · show ((List.replicate (c.c1 * P c).toNat (0 : Int)).length : Int) = _; rw [List.length_replicate]; omega
    · show ((zeros7 c.c1.toNat).length : Int) = _; unfold zeros7; rw [List.length_replicate]; omega
    · show ((List.replicate c.c3.toNat ([] : List Int)).length : Int) = _; rw [List.length_replicate]; omega
    · show (List.replicate c.c3.toNat ([] : List Int)).length = _; rw [List.length_replicate, en]
    · intro t b l hb hl
      have := (List.mem_replicate.1 (List.mem_of_getElem? hl)).2
      subst this
      exact S7 t b hb
    · show ((List.replicate c.c3.toNat ((0 : Int), (0 : Int))).length : Int) = _; rw [List.length_replicate]; omega
end Go.Proofs.Ythmkimnpdnmahaa
