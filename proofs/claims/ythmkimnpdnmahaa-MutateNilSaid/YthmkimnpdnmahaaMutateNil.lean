/- MutateNil's walk. -/
import Derived.Test.YthmkimnpdnmahaaAwake15
import Derived.Test.YthmkimnpdnmahaaWorld1
import Derived.Test.YthmkimnpdnmahaaVcR
namespace Go.Proofs.Ythmkimnpdnmahaa
open Go.Vc

theorem MutateNil_spec (c : Cfg) (thread k a b d v0 : Int) (w : World) : CallC Pr f_gleanerlaw15_MutateNil [cfgV c, .int .i64 thread, .agg (opL k a b d v0).toArray] w (fun v w' => v = .bool true ∧ Fr No w w') := by
  refine call_sound T_ok fun_gleanerlaw15_MutateNil rfl (by kernel_rfl) rfl (Kp ?_)
  refine NewC_blk (fun p1 w1 hp1 h1 f1 s1 => ?_)
  have h1 : Blk w1 p1 t_api_Config (cfgL c) := h1
  refine NewC_blk (fun p2 w2 hp2 h2 f2 s2 => ?_)
  have h2 : Blk w2 p2 t_api_Op (opL k a b d v0) := h2
  refine CallC_intro (awake15_spec w2) (fun v w3 ⟨hv, f3⟩ => ?_)
  subst hv
  refine CallC_intro (Fail_nil w3) (fun v w4 ⟨hv, f4⟩ => ?_)
  subst hv
  refine NewC_blk (fun p3 w5 hp3 h5 f5 s5 => ?_)
  refine StN_blk h5 rfl (Nat.le_of_ble_eq_true rfl) (fun w6 h6 f6 s6 => ?_)
  have h6 : Blk w6 p3 t_api_Answer ans0 := h6
  refine CallC_intro (Step_nil w6) (fun v w7 ⟨hv, f7⟩ => ?_)
  subst hv
  refine NewC_blk (fun p4 w8 hp4 h8 f8 s8 => ?_)
  refine StN_blk h8 rfl (Nat.le_of_ble_eq_true rfl) (fun w9 h9 f9 s9 => ?_)
  have h9 : Blk w9 p4 t_mutate_Result res0 := h9
  refine CallC_intro (Idle_nil w9) (fun v w10 ⟨hv, f10⟩ => ?_)
  subst hv
  have f26 : Fr No w2 w6 := ((f3.no f4).no f5).new f6 (fun _ _ e => e) (fun q e => by have e : q = p3 := e; have := (f3.no f4).size; omega)
  have f69 : Fr No w6 w9 := (f7.no f8).new f9 (fun _ _ e => e) (fun q e => by have e : q = p4 := e; have := f7.size; omega)
  have h110 := ((h1.keep f2 id).keep f26 id).keep (f69.no f10) id
  have h210 := (h2.keep f26 id).keep (f69.no f10) id
  have h310 := h6.keep (f69.no f10) id
  have h410 := h9.keep f10 id
  have F10 : Fr No w w10 := ((f1.no f2).no f26).no (f69.no f10)
  refine LdN_blk (vs := opL k a b d v0) h210 rfl rfl ?_
  refine CallC_intro (Start_nil k a b d v0 w10) (fun v w11 ⟨hv, f11⟩ => ?_)
  subst hv
  refine LdN_blk (vs := ans0) (h310.keep f11 id) rfl rfl ?_
  refine NeS (cs := ans0) (ds := ans0) (by kernel_rfl) ?_
  have h411 := h410.keep f11 id
  refine LdC_blk h411 rfl ?_
  refine LdC_blk h411 rfl ?_
  refine LdC_blk h411 rfl ?_
  refine LdC_blk h411 rfl ?_
  have h111 := h110.keep f11 id
  have h211 := h210.keep f11 id
  have F11 := F10.no f11
  refine LdN_blk (vs := cfgL c) h111 rfl rfl ?_
  by_cases hV : Valid c ∧ c.c1 * P c ≤ 8192
  · obtain ⟨hV, hw⟩ := hV
    have c3 : 1 ≤ c.c3 ∧ c.c3 ≤ 64 := hV.ls 1 _ rfl
    refine CallC_intro (Begin_spec c (oa := none) (oc := 0) (L := []) w11 hV hw (fun t q h => by cases h)) (fun v w12 ⟨wb, hb, gb, hpp, gp, wp, z, hv, H, G, W, lw, lg, zl, z0, f12⟩ => ?_)
    subst hv
    have h112 := h111.keep f12 id
    have h212 := h211.keep f12 id
    have F12 := F11.no f12
    have bl : (hpp.bs.length : Int) = c.c3 := H.bsl
    refine LdC_blk h112 rfl ?_
    refine MkC T_ok (z := .slice none 0 0) rfl rfl rfl rfl (n := c.c3) (by omega) (by omega) (show (24 : Int) * c.c3 ≤ _ by omega) (fun orr w13 ho h13 f13 s13 => ?_)
    refine NewC_blk (fun sh w14 hsh h14 f14 s14 => ?_)
    have h14 : Blk w14 sh t_mutate_Shared [.bool false, .slice (some ⟨orr, 0, none⟩) c.c3.toNat c.c3.toNat] := h14
    have en : hpp.bs.length = c.c3.toNat := by omega
    rw [← en] at h14
    have f24 := f13.no f14
    have H14 := H.mv (Mv.of (S := fun _ => False) f24) (fun _ _ => id)
    have W14 := W.mv (Mv.of (S := fun _ => False) f24) (fun _ _ => id)
    have h114 := h112.keep f24 id
    have h214 := h212.keep f24 id
    have F14 := F12.no f24
    refine LdC_blk W14.tab rfl ?_
    have hN : CallC Pr f_mutate_New [ptr hb, .int .i64 thread, ptr sh] w14 (fun r w' => ∃ o e, r = .tuple #[.pointer o, .int .i64 e] ∧ ((0 ≤ thread ∧ thread < c.c3 ∧ o.isSome = true ∧ e = 0) ∨ (¬ (0 ≤ thread ∧ thread < c.c3) ∧ o = none ∧ e = 2)) ∧ Fr No w14 w') := by
      by_cases ht : 0 ≤ thread ∧ thread < c.c3
      · refine CallC_intro (mutate_New_spec thread w14 H14 h14 (by omega)) (fun v w15 ⟨mb, hv, _, f15, _, _⟩ => ?_)
        exact ⟨_, 0, hv, .inl ⟨ht.1, ht.2, rfl, rfl⟩, f15⟩
      · refine CallC_intro (mutate_New_range thread w14 H14 h14 (by omega)) (fun v w15 ⟨hv, f15⟩ => ?_)
        exact ⟨none, 2, hv, .inr ⟨ht, rfl, rfl⟩, f15⟩
    refine CallC_intro hN (fun v w15 ⟨o, e, hv, hoe, f15⟩ => ?_)
    subst hv
    refine CallC_intro (mutate_New_nilH 0 (ptr sh) w15 ⟨_, rfl⟩) (fun v w16 ⟨hv, f16⟩ => ?_)
    subst hv
    have W16 := W14.mv (Mv.of (S := fun _ => False) (f15.no f16)) (fun _ _ => id)
    refine LdC_blk W16.tab rfl ?_
    refine CallC_intro (mutate_New_nilS 0 hb w16) (fun v w17 ⟨hv, f17⟩ => ?_)
    subst hv
    have h117 := (h114.keep (f15.no f16) id).keep f17 id
    have h217 := (h214.keep (f15.no f16) id).keep f17 id
    have W17 := W16.mv (Mv.of (S := fun _ => False) f17) (fun _ _ => id)
    have F17 := (F14.no (f15.no f16)).no f17
    have m0l : 0 < wp.ms.length := by omega
    obtain ⟨g, cap, cur, m0, hmv, hgb, hc0, hm0, zg⟩ := W17.mcell m0l
    have hM := W17.mus 0 m0 newM hm0 (by
      show (List.replicate c.c3.toNat newM)[0]? = some newM
      rw [List.getElem?_replicate, if_pos (by omega)])
    have hT : Blk w17 wb t_gleanerlaw15_World [ptr hb, ptr wp.sh, .slice (some ⟨g, 0, none⟩) wp.ms.length cap, .slice (some ⟨wp.opr, 0, none⟩) wp.ms.length wp.ms.length, .slice (some ⟨wp.nxr, 0, none⟩) wp.ms.length wp.ms.length, ptr gb, wp.dv, .int .i64 0, .bool false] := by
      have h := W17.tab
      unfold worldL at h
      rw [hmv] at h
      exact h
    have nb : wb ≠ m0 := fun e => by have h1 := W17.tabz; have h2 := hM.2; rw [e] at h1; omega
    have ng : g ≠ m0 := fun e => by have h2 := hM.2; rw [e] at zg; omega
    have np : p2 ≠ m0 := fun e => by have h1 := z0 p2 h211.lt; have h2 := hM.2; rw [e] at h1; omega
    rcases hoe with ⟨t0, t1, ho, rfl⟩ | ⟨hn, rfl, rfl⟩
    · obtain ⟨o, rfl⟩ := Option.isSome_iff_exists.1 ho
      refine Br_dt (show thread ≥ 0 from t0) ?_
      refine LdC_blk h117 rfl ?_
      refine Br_intro (fun bt => ?_) (fun bt => ?_)
      · have : False := by
          have g' := bt
          simp at g'
          exact absurd g' (by omega)
        exact this.elim
      · refine LdC_blk hT rfl ?_
        refine Sd_intro ⟨Int.le_refl 0, by omega⟩ ?_
        refine LdC_blk hgb hc0 ?_
        refine CallC_intro (Fail_not _ hM.1 (by decide)) (fun v w18 ⟨hv, f18⟩ => ?_)
        subst hv
        refine NewC_blk (fun q w19 hq h19 f19 s19 => ?_)
        refine StN_blk h19 rfl (Nat.le_of_ble_eq_true rfl) (fun w20 h20 f20 s20 => ?_)
        have f1820 : Fr No w18 w20 := f19.new f20 (fun _ _ e => e) (fun k e => by omega)
        have f1720 := f18.no f1820
        have hTd := (hT.keep f1720 id).keep (Fr.drew w20) id
        have hgd := (hgb.keep f1720 id).keep (Fr.drew w20) id
        have hpd := (h217.keep f1720 id).keep (Fr.drew w20) id
        have hmd := (hM.1.keep f1720 id).keep (Fr.drew w20) id
        have F20 := (F17.no f1720).no (Fr.drew w20)
        refine AnyC_plan T_ok mixed (planO [0,1,2,3,4,5,6,7,8,9,1010,11,12,13,14,15,16,17,18,19,20,1021,22,23,24,25,26,27,28,29,30,1031,32,33,34]) (fun w' => Blk w' wb t_gleanerlaw15_World [ptr hb, ptr wp.sh, .slice (some ⟨g, 0, none⟩) wp.ms.length cap, .slice (some ⟨wp.opr, 0, none⟩) wp.ms.length wp.ms.length, .slice (some ⟨wp.nxr, 0, none⟩) wp.ms.length wp.ms.length, ptr gb, wp.dv, .int .i64 0, .bool false] ∧ Blk w' g t_p_mutate_Mutator cur ∧ Blk w' p2 t_api_Op (opL k a b d v0)) (by kernel_rfl) (by kernel_rfl) ⟨hTd, hgd, hpd⟩ (Kp ?_)
        refine LdS_of (fun w' hw => hw.1) rfl ?_
        refine Sd_intro ⟨Int.le_refl 0, by omega⟩ ?_
        refine LdS_of (fun w' hw => hw.2.1) hc0 ?_
        refine LdSN_of (vs := opL k a b d v0) (fun w' hw => hw.2.2) rfl rfl ?_
        refine ⟨?_, trivial⟩
        refine CallC_intro (Start_spec k a b d v0 _ hmd rfl) (fun v w21 ⟨hv, hm21, f21⟩ => ?_)
        subst hv
        have hT21 := hTd.keep f21 nb
        have hg21 := hgd.keep f21 ng
        have hp21 := hpd.keep f21 np
        refine Sd_intro ⟨hT21, hg21, hp21⟩ ?_
        refine LdS_of (fun w' hw => hw.1) rfl ?_
        refine Sd_intro ⟨Int.le_refl 0, by omega⟩ ?_
        refine LdS_of (fun w' hw => hw.2.1) hc0 ?_
        refine LdSN_of (vs := opL k a b d v0) (fun w' hw => hw.2.2) rfl rfl ?_
        refine ⟨?_, trivial⟩
        refine CallC_intro (Start_busy k a b d v0 _ hm21 (by show (1 : Int) ≠ 0; decide)) (fun v w22 ⟨hv, f22⟩ => ?_)
        subst hv
        refine Sd_intro ⟨hT21.keep f22 id, hg21.keep f22 id, hp21.keep f22 id⟩ ?_
        refine LdS_of (fun w' hw => hw.1) rfl ?_
        refine Sd_intro ⟨Int.le_refl 0, by omega⟩ ?_
        refine LdS_of (fun w' hw => hw.2.1) hc0 ?_
        refine ⟨?_, trivial⟩
        refine CallC_intro (Idle_spec _ (hm21.keep f22 id)) (fun v w23 ⟨hv, f23⟩ => ?_)
        subst hv
        refine Sd_intro ⟨(hT21.keep f22 id).keep f23 id, (hg21.keep f22 id).keep f23 id, (hp21.keep f22 id).keep f23 id⟩ ?_
        refine ⟨rfl, ?_⟩
        have m0n : ∀ k, k < w.heap.size → k ≠ m0 := fun k hk e => by
          have h1 := z0 k (Nat.lt_of_lt_of_le hk F11.size)
          have h2 := hM.2
          rw [e] at h1; omega
        exact ((F20.trans f21 (fun _ _ e => e) (fun k hk e => m0n k hk e)).no f22).no f23
    · by_cases t0 : thread ≥ 0
      · refine Br_dt t0 ?_
        refine LdC_blk h117 rfl ?_
        refine Br_intro (fun bt => ?_) (fun bt => ?_)
        · have : False := by
            have g' := bt
            simp at g'
            exact absurd g' (by omega)
          exact this.elim
        · refine LdC_blk hT rfl ?_
          refine Sd_intro ⟨Int.le_refl 0, by omega⟩ ?_
          refine LdC_blk hgb hc0 ?_
          refine CallC_intro (Fail_not _ hM.1 (by decide)) (fun v w18 ⟨hv, f18⟩ => ?_)
          subst hv
          refine NewC_blk (fun q w19 hq h19 f19 s19 => ?_)
          refine StN_blk h19 rfl (Nat.le_of_ble_eq_true rfl) (fun w20 h20 f20 s20 => ?_)
          have f1820 : Fr No w18 w20 := f19.new f20 (fun _ _ e => e) (fun k e => by omega)
          have f1720 := f18.no f1820
          have hTd := (hT.keep f1720 id).keep (Fr.drew w20) id
          have hgd := (hgb.keep f1720 id).keep (Fr.drew w20) id
          have hpd := (h217.keep f1720 id).keep (Fr.drew w20) id
          have hmd := (hM.1.keep f1720 id).keep (Fr.drew w20) id
          have F20 := (F17.no f1720).no (Fr.drew w20)
          refine AnyC_plan T_ok mixed (planO [0,1,2,3,4,5,6,7,8,9,1010,11,12,13,14,15,16,17,18,19,20,1021,22,23,24,25,26,27,28,29,30,1031,32,33,34]) (fun w' => Blk w' wb t_gleanerlaw15_World [ptr hb, ptr wp.sh, .slice (some ⟨g, 0, none⟩) wp.ms.length cap, .slice (some ⟨wp.opr, 0, none⟩) wp.ms.length wp.ms.length, .slice (some ⟨wp.nxr, 0, none⟩) wp.ms.length wp.ms.length, ptr gb, wp.dv, .int .i64 0, .bool false] ∧ Blk w' g t_p_mutate_Mutator cur ∧ Blk w' p2 t_api_Op (opL k a b d v0)) (by kernel_rfl) (by kernel_rfl) ⟨hTd, hgd, hpd⟩ (Kp ?_)
          refine LdS_of (fun w' hw => hw.1) rfl ?_
          refine Sd_intro ⟨Int.le_refl 0, by omega⟩ ?_
          refine LdS_of (fun w' hw => hw.2.1) hc0 ?_
          refine LdSN_of (vs := opL k a b d v0) (fun w' hw => hw.2.2) rfl rfl ?_
          refine ⟨?_, trivial⟩
          refine CallC_intro (Start_spec k a b d v0 _ hmd rfl) (fun v w21 ⟨hv, hm21, f21⟩ => ?_)
          subst hv
          have hT21 := hTd.keep f21 nb
          have hg21 := hgd.keep f21 ng
          have hp21 := hpd.keep f21 np
          refine Sd_intro ⟨hT21, hg21, hp21⟩ ?_
          refine LdS_of (fun w' hw => hw.1) rfl ?_
          refine Sd_intro ⟨Int.le_refl 0, by omega⟩ ?_
          refine LdS_of (fun w' hw => hw.2.1) hc0 ?_
          refine LdSN_of (vs := opL k a b d v0) (fun w' hw => hw.2.2) rfl rfl ?_
          refine ⟨?_, trivial⟩
          refine CallC_intro (Start_busy k a b d v0 _ hm21 (by show (1 : Int) ≠ 0; decide)) (fun v w22 ⟨hv, f22⟩ => ?_)
          subst hv
          refine Sd_intro ⟨hT21.keep f22 id, hg21.keep f22 id, hp21.keep f22 id⟩ ?_
          refine LdS_of (fun w' hw => hw.1) rfl ?_
          refine Sd_intro ⟨Int.le_refl 0, by omega⟩ ?_
          refine LdS_of (fun w' hw => hw.2.1) hc0 ?_
          refine ⟨?_, trivial⟩
          refine CallC_intro (Idle_spec _ (hm21.keep f22 id)) (fun v w23 ⟨hv, f23⟩ => ?_)
          subst hv
          refine Sd_intro ⟨(hT21.keep f22 id).keep f23 id, (hg21.keep f22 id).keep f23 id, (hp21.keep f22 id).keep f23 id⟩ ?_
          refine ⟨rfl, ?_⟩
          have m0n : ∀ k, k < w.heap.size → k ≠ m0 := fun k hk e => by
            have h1 := z0 k (Nat.lt_of_lt_of_le hk F11.size)
            have h2 := hM.2
            rw [e] at h1; omega
          exact ((F20.trans f21 (fun _ _ e => e) (fun k hk e => m0n k hk e)).no f22).no f23
      · refine Br_df t0 ?_
        refine LdC_blk hT rfl ?_
        refine Sd_intro ⟨Int.le_refl 0, by omega⟩ ?_
        refine LdC_blk hgb hc0 ?_
        refine CallC_intro (Fail_not _ hM.1 (by decide)) (fun v w18 ⟨hv, f18⟩ => ?_)
        subst hv
        refine NewC_blk (fun q w19 hq h19 f19 s19 => ?_)
        refine StN_blk h19 rfl (Nat.le_of_ble_eq_true rfl) (fun w20 h20 f20 s20 => ?_)
        have f1820 : Fr No w18 w20 := f19.new f20 (fun _ _ e => e) (fun k e => by omega)
        have f1720 := f18.no f1820
        have hTd := (hT.keep f1720 id).keep (Fr.drew w20) id
        have hgd := (hgb.keep f1720 id).keep (Fr.drew w20) id
        have hpd := (h217.keep f1720 id).keep (Fr.drew w20) id
        have hmd := (hM.1.keep f1720 id).keep (Fr.drew w20) id
        have F20 := (F17.no f1720).no (Fr.drew w20)
        refine AnyC_plan T_ok mixed (planO [0,1,2,3,4,5,6,7,8,9,1010,11,12,13,14,15,16,17,18,19,20,1021,22,23,24,25,26,27,28,29,30,1031,32,33,34]) (fun w' => Blk w' wb t_gleanerlaw15_World [ptr hb, ptr wp.sh, .slice (some ⟨g, 0, none⟩) wp.ms.length cap, .slice (some ⟨wp.opr, 0, none⟩) wp.ms.length wp.ms.length, .slice (some ⟨wp.nxr, 0, none⟩) wp.ms.length wp.ms.length, ptr gb, wp.dv, .int .i64 0, .bool false] ∧ Blk w' g t_p_mutate_Mutator cur ∧ Blk w' p2 t_api_Op (opL k a b d v0)) (by kernel_rfl) (by kernel_rfl) ⟨hTd, hgd, hpd⟩ (Kp ?_)
        refine LdS_of (fun w' hw => hw.1) rfl ?_
        refine Sd_intro ⟨Int.le_refl 0, by omega⟩ ?_
        refine LdS_of (fun w' hw => hw.2.1) hc0 ?_
        refine LdSN_of (vs := opL k a b d v0) (fun w' hw => hw.2.2) rfl rfl ?_
        refine ⟨?_, trivial⟩
        refine CallC_intro (Start_spec k a b d v0 _ hmd rfl) (fun v w21 ⟨hv, hm21, f21⟩ => ?_)
        subst hv
        have hT21 := hTd.keep f21 nb
        have hg21 := hgd.keep f21 ng
        have hp21 := hpd.keep f21 np
        refine Sd_intro ⟨hT21, hg21, hp21⟩ ?_
        refine LdS_of (fun w' hw => hw.1) rfl ?_
        refine Sd_intro ⟨Int.le_refl 0, by omega⟩ ?_
        refine LdS_of (fun w' hw => hw.2.1) hc0 ?_
        refine LdSN_of (vs := opL k a b d v0) (fun w' hw => hw.2.2) rfl rfl ?_
        refine ⟨?_, trivial⟩
        refine CallC_intro (Start_busy k a b d v0 _ hm21 (by show (1 : Int) ≠ 0; decide)) (fun v w22 ⟨hv, f22⟩ => ?_)
        subst hv
        refine Sd_intro ⟨hT21.keep f22 id, hg21.keep f22 id, hp21.keep f22 id⟩ ?_
        refine LdS_of (fun w' hw => hw.1) rfl ?_
        refine Sd_intro ⟨Int.le_refl 0, by omega⟩ ?_
        refine LdS_of (fun w' hw => hw.2.1) hc0 ?_
        refine ⟨?_, trivial⟩
        refine CallC_intro (Idle_spec _ (hm21.keep f22 id)) (fun v w23 ⟨hv, f23⟩ => ?_)
        subst hv
        refine Sd_intro ⟨(hT21.keep f22 id).keep f23 id, (hg21.keep f22 id).keep f23 id, (hp21.keep f22 id).keep f23 id⟩ ?_
        refine ⟨rfl, ?_⟩
        have m0n : ∀ k, k < w.heap.size → k ≠ m0 := fun k hk e => by
          have h1 := z0 k (Nat.lt_of_lt_of_le hk F11.size)
          have h2 := hM.2
          rw [e] at h1; omega
        exact ((F20.trans f21 (fun _ _ e => e) (fun k hk e => m0n k hk e)).no f22).no f23
  · have hV' : ¬ Valid c ∨ (Valid c ∧ 8192 < c.c1 * P c) := by
      by_cases h : Valid c
      · exact .inr ⟨h, by have : ¬ c.c1 * P c ≤ 8192 := fun e => hV ⟨h, e⟩; omega⟩
      · exact .inl h
    refine CallC_intro (Begin_none c _ w11 hV') (fun v w12 ⟨hv, f12⟩ => ?_)
    subst hv
    exact ⟨rfl, F11.no f12⟩
/-- An operation that came in. -/
def opKs : List (Option IntKind) := [some .i64, some .i64, some .i64, some .i64, some .u64]
theorem op_of {cs : List Value} (h : LeafRow opKs cs) : ∃ k a b d v : Int, cs = opL k a b d v := by
  obtain ⟨v0, r0, rfl, ⟨k, rfl, _⟩, h0⟩ := h.cons
  obtain ⟨v1, r1, rfl, ⟨a, rfl, _⟩, h1⟩ := h0.cons
  obtain ⟨v2, r2, rfl, ⟨b, rfl, _⟩, h2⟩ := h1.cons
  obtain ⟨v3, r3, rfl, ⟨d, rfl, _⟩, h3⟩ := h2.cons
  obtain ⟨v4, r4, rfl, ⟨v, rfl, _⟩, h4⟩ := h3.cons
  obtain rfl := h4.nil
  exact ⟨k, a, b, d, v, rfl⟩
theorem cfg_of {zs : List Int} (h : zs.length = 14) : ∃ c : Cfg, Value.agg (zs.map (Value.int .i64)).toArray = cfgV c := by
  match zs, h with
  | [c0, c1, c2, c3, c4, c5, c6, c7, c8, c9, c10, c11, c12, c13], _ => exact ⟨⟨c0, c1, c2, c3, c4, c5, c6, c7, c8, c9, c10, c11, c12, c13⟩, rfl⟩
end Go.Proofs.Ythmkimnpdnmahaa
