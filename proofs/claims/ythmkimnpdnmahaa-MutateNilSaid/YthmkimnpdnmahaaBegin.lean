/- The law's world: Begin. -/
import Derived.Test.YthmkimnpdnmahaaOver
namespace Go.Proofs.Ythmkimnpdnmahaa
open Go.Vc

theorem Begin_none (c : Cfg) (ov : Value) (w : World) (hV : ¬ Valid c ∨ (Valid c ∧ 8192 < c.c1 * P c)) : CallC Pr f_gleanerlaw15_Begin [cfgV c, ov] w (fun r w' => r = .tuple #[.pointer none, .bool true] ∧ Fr No w w') := by
  refine call_sound T_ok fun_gleanerlaw15_Begin rfl (by kernel_rfl) rfl (Kp ?_)
  refine NewC_blk (fun p1 w1 hp1 h1 f1 s1 => ?_)
  have h1 : Blk w1 p1 t_api_Config (cfgL c) := h1
  refine LdN_blk (vs := cfgL c) h1 rfl rfl ?_
  refine CallC_intro (geom_New_spec c w1) (fun v w2 ⟨hv, f2⟩ => ?_)
  rcases hV with hV | ⟨hV, hw⟩
  · have hv : v = .tuple #[.agg (geoL 0 0 0 0 0 0).toArray, .int .i64 20] := by
      rcases hv with ⟨h, _⟩ | ⟨_, hv⟩
      · exact absurd h hV
      · exact hv
    subst hv
    refine NewC_blk (fun g w3 hg h3 f3 s3 => ?_)
    refine StN_blk h3 rfl (Nat.le_refl 6) (fun w4 h4 f4 s4 => ?_)
    have f34 : Fr No w2 w4 := f3.new f4 (fun _ _ e => e) (fun k e => by omega)
    exact ⟨rfl, (f1.no f2).no f34⟩
  · have hv : v = .tuple #[.agg (geoC c).toArray, .int .i64 0] := by
      rcases hv with ⟨_, hv⟩ | ⟨hn, _⟩
      · exact hv
      · exact absurd hV hn
    subst hv
    refine NewC_blk (fun g w3 hg h3 f3 s3 => ?_)
    refine StN_blk h3 rfl (Nat.le_refl 6) (fun w4 h4 f4 s4 => ?_)
    have h4 : Blk w4 g t_geom_Geom (geoC c) := h4
    have f34 : Fr No w2 w4 := f3.new f4 (fun _ _ e => e) (fun k e => by omega)
    refine LdC_blk h4 rfl ?_
    refine Br_dt (show c.c1 * P c > 8192 from hw) ?_
    exact ⟨rfl, (f1.no f2).no f34⟩
theorem Begin_spec (c : Cfg) {oa : Option Addr} {oc : Nat} {L : List (Option Addr × Nat × Nat)} (w : World) (hV : Valid c) (hw : c.c1 * P c ≤ 8192) (hL : OpsArg w oa L) :
    CallC Pr f_gleanerlaw15_Begin [cfgV c, .slice oa L.length oc] w (fun r w' => ∃ wb hb gb hp gp wp z, r = .tuple #[ptr wb, .bool true] ∧ HeapAt w' z c hb hp (newS c) ∧
      GraphAt w' z gb gp ⟨min 1048576 (c.c1 * P c - P c), c.c4, List.replicate c.c3.toNat 0, List.replicate c.c3.toNat [], []⟩ ∧
      WorldAt w' z hb gb wb wp ⟨List.replicate c.c3.toNat newM, List.replicate c.c3.toNat [], false, cutOps L c.c3.toNat c.c3.toNat, List.replicate c.c3.toNat 0, [], 0, false⟩ ∧ wp.ms.length = c.c3.toNat ∧ gp.bs.length = c.c3.toNat ∧
      (∀ k, z k < 600) ∧ (∀ k, k < w.heap.size → z k = 0) ∧ Fr No w w') := by
  have hp := P_le hV
  have c3 : 1 ≤ c.c3 ∧ c.c3 ≤ 64 := hV.ls 1 _ rfl
  have c4 : 1 ≤ c.c4 ∧ c.c4 ≤ 64 := hV.ls 2 _ rfl
  refine call_sound T_ok fun_gleanerlaw15_Begin rfl (by kernel_rfl) rfl (Kp ?_)
  refine NewC_blk (fun p1 w1 hp1 h1 f1 s1 => ?_)
  have h1 : Blk w1 p1 t_api_Config (cfgL c) := h1
  refine LdN_blk (vs := cfgL c) h1 rfl rfl ?_
  refine CallC_intro (geom_New_spec c w1) (fun v w2 ⟨hv, f2⟩ => ?_)
  have hv : v = .tuple #[.agg (geoC c).toArray, .int .i64 0] := by
    rcases hv with ⟨_, hv⟩ | ⟨hn, _⟩
    · exact hv
    · exact absurd hV hn
  subst hv
  refine NewC_blk (fun g w3 hg h3 f3 s3 => ?_)
  refine StN_blk h3 rfl (Nat.le_refl 6) (fun w4 h4 f4 s4 => ?_)
  have h4 : Blk w4 g t_geom_Geom (geoC c) := h4
  have f34 : Fr No w2 w4 := f3.new f4 (fun _ _ e => e) (fun k e => by omega)
  have f14 := f2.no f34
  have h1 := h1.keep f14 id
  have f04 := f1.no f14
  refine LdC_blk h4 rfl ?_
  refine Br_df (show ¬ c.c1 * P c > 8192 by omega) ?_
  refine LdN_blk (vs := cfgL c) h1 rfl rfl ?_
  refine CallC_intro (heap_New_spec c w4 hV) (fun v w5 ⟨hb, hpp, z5, hv, H5, zl5, z05, f5⟩ => ?_)
  subst hv
  have h1 := h1.keep f5 id
  have h4 := h4.keep f5 id
  have f05 := f04.no f5
  refine LdC_blk h1 rfl ?_
  refine LdC_blk h1 rfl ?_
  refine LdC_blk h4 rfl ?_
  refine CallC_intro (ref13_New_spec c.c3 c.c4 (min 1048576 (c.c1 * P c - P c)) z5 w5 c3 c4 (by omega) zl5) (fun v w6 ⟨gb, gp, z6, hv, G6, zl6, m6⟩ => ?_)
  subst hv
  have H6 := H5.mv m6 (fun _ _ => id)
  have f56 : Fr No w5 w6 := m6.fr.weak (fun _ _ e => e.elim)
  have f06 := f05.no f56
  have bl : hpp.bs.length = c.c3.toNat := by have := H6.bsl; omega
  refine CallC_intro (Over_spec (c := c) (hb := hb) (gb := gb) (z := z6) (oc := oc) w6 H6 (fun k => (zl6 k).1) (fun k _ => (zl6 k).2) (hL.keep f06)) (fun v w7 ⟨wb, wp, z7, hv, W7, lw, m7, zl7⟩ => ?_)
  subst hv
  rw [bl] at W7
  have f67 : Fr No w6 w7 := m7.fr.weak (fun _ _ e => e.elim)
  refine ⟨wb, hb, gb, hpp, gp, wp, z7, rfl, H6.mv m7 (fun _ _ => id), G6.mv m7 (fun _ _ => id), W7, lw.trans bl, ?_, zl7, fun k hk => ?_, f06.no f67⟩
  · have := G6.lens.1
    rw [← this]; show (List.replicate c.c3.toNat ([] : List Int)).length = _; rw [List.length_replicate]
  · rw [m7.zs k (Nat.lt_of_lt_of_le hk f06.size), m6.zs k (Nat.lt_of_lt_of_le hk f05.size)]
    exact z05 k (Nat.lt_of_lt_of_le hk f04.size)
end Go.Proofs.Ythmkimnpdnmahaa
