/- CardsNotes' walk. -/
import Derived.Test.YtilhoimokegpjaaCardTab
import Derived.Test.YtilhoimokegpjaaRef02b
namespace Go.Proofs.Ytilhoimokegpjaa
open Go.Vc
theorem RNote_spec (a0 a1 a2 a3 a4 a5 from_ field to : Int) (h0 : 1 ≤ a0) (h01 : a0 ≤ 4194304) (h : 1 ≤ a1) (ht : 0 ≤ to) (w : World) :
    CallC Pr f_gleanerref09_Note [geoV a0 a1 a2 a3 a4 a5, .int .i64 from_, .int .i64 field, .int .u64 to] w (fun v w' => v = .bool (decide (noteP a0 a1 from_ field to)) ∧ Fr No w w') := by
  refine call_sound T_ok fun_gleanerref09_Note rfl (by kernel_rfl) rfl (Kp ?_)
  refine NewC_blk (fun q w1 hq h1 f1 _ => ?_)
  have h1 : Blk w1 q t_gleanerref02_Geom (geoL a0 a1 a2 a3 a4 a5) := h1
  refine Br_dec (fun g0 => ?_) (fun g0 => ?_)
  · have g0 : to = 0 := g0
    exact ⟨by rw [decide_eq_false (fun e => e.2.1 g0)]; rfl, f1⟩
  · have g0 : ¬ to = 0 := g0
    refine Br_dec (fun g1 => ?_) (fun g1 => ?_)
    · have g1 : to > 4194304 := g1
      exact ⟨by rw [decide_eq_false (fun e => by have := e.2.2.1; omega)]; rfl, f1⟩
    · have g1 : ¬ to > 4194304 := g1
      refine Br_dec (fun g2 => ?_) (fun g2 => ?_)
      · have g2 : from_ = 1 := g2
        exact ⟨by rw [decide_eq_false (fun e => e.1.1 g2)]; rfl, f1⟩
      · have g2 : ¬ from_ = 1 := g2
        refine Br_dec (fun g3 => ?_) (fun g3 => ?_)
        · have g3 : from_ = 2 := g3
          exact ⟨by rw [decide_eq_false (fun e => e.1.2 g3)]; rfl, f1⟩
        · have g3 : ¬ from_ = 2 := g3
          refine LdC_blk h1 rfl ?_
          refine Br_dt (show a1 > 0 by omega) ?_
          refine LdN_blk (vs := geoL a0 a1 a2 a3 a4 a5) h1 rfl rfl ?_
          refine CallC_intro (RCross_spec a0 a1 a2 a3 a4 a5 field (IntKind.i64.wrap (IntKind.i64.wrap to - 1)) h0 h01 h w1) (fun v w2 ⟨hv, f2⟩ => ?_)
          subst hv
          refine ⟨?_, f1.no f2⟩
          show Value.bool (decide _) = _
          rw [wrap_i64 (n := to) (by omega) (by omega), wrap_i64 (n := to - 1) (by omega) (by omega)]
          congr 1
          exact decide_eq_decide.2 ⟨fun h => ⟨⟨g2, g3⟩, g0, by omega, h⟩, fun h => h.2.2.2⟩
theorem cfg_of {zs : List Int} (h : zs.length = 14) : ∃ c : Cfg, Value.agg (zs.map (Value.int .i64)).toArray = cfgV c := by
  match zs, h with
  | [c0, c1, c2, c3, c4, c5, c6, c7, c8, c9, c10, c11, c12, c13], _ => exact ⟨⟨c0, c1, c2, c3, c4, c5, c6, c7, c8, c9, c10, c11, c12, c13⟩, rfl⟩
theorem CardsNotes_spec (c : Cfg) (from_ field to : Int) (ht : 0 ≤ to) (w : World) :
    CallC Pr f_gleanerlaw09_CardsNotes [cfgV c, .int .i64 from_, .int .i64 field, .int .u64 to] w (fun v w' => v = .bool true ∧ Fr No w w') := by
  refine call_sound T_ok fun_gleanerlaw09_CardsNotes rfl (by kernel_rfl) rfl (Kp ?_)
  refine NewC_blk (fun q w1 hq h1 f1 _ => ?_)
  have h1 : Blk w1 q t_api_Config (cfgL c) := h1
  refine CallC_intro (awake09_spec w1) (fun v w2 ⟨hv, f2⟩ => ?_)
  subst hv
  have h2 := h1.keep f2 id
  have f := f1.no f2
  refine LdN_blk (vs := cfgL c) h2 rfl rfl ?_
  refine CallC_intro (geom_New_spec c w2) (fun v w3 ⟨hv, f3⟩ => ?_)
  have f := f.no f3
  rcases hv with ⟨hV, rfl⟩ | ⟨_, rfl⟩
  · refine NewC_blk (fun g w4 hg h4 f4 _ => ?_)
    have f := f.no f4
    refine StN_blk h4 rfl (Nat.le_refl 6) (fun w5 h5 f5 _ => ?_)
    have f45 : Fr No w3 w5 := f4.new f5 (fun _ _ e => e) (fun k e => by omega)
    have f := ((f1.no f2).no f3).no f45
    have h5 : Blk w5 g t_geom_Geom (geoL (c.c1 * P c) (P c) (Q c) c.c1 (c.c1 * P c / Q c) (min 1048576 (c.c1 * P c - P c))) := h5
    have hb := P_le hV
    have hk : c.c0.toNat ≤ 20 := by have := hV.s0; have := hV.s1; omega
    have eP : P c = 2 ^ c.c0.toNat := rfl
    refine LdN_blk (vs := geoL (c.c1 * P c) (P c) (Q c) c.c1 (c.c1 * P c / Q c) (min 1048576 (c.c1 * P c - P c))) h5 rfl rfl ?_
    refine CallC_intro (Note_spec (c.c1 * P c) (Q c) c.c1 (c.c1 * P c / Q c) (min 1048576 (c.c1 * P c - P c)) from_ field to c.c0.toNat hk (by omega) ht w5) (fun v w6 ⟨hv, f6⟩ => ?_)
    subst hv
    have h6 := h5.keep f6 id
    have f := f.no f6
    refine LdN_blk (vs := geoL (c.c1 * P c) (P c) (Q c) c.c1 (c.c1 * P c / Q c) (min 1048576 (c.c1 * P c - P c))) h6 rfl rfl ?_
    refine CallC_intro (RNote_spec (c.c1 * P c) (P c) (Q c) c.c1 (c.c1 * P c / Q c) (min 1048576 (c.c1 * P c - P c)) from_ field to (by omega) (by omega) (by omega) ht w6) (fun v w7 ⟨hv, f7⟩ => ?_)
    subst hv
    have h7 := h6.keep f7 id
    have f := f.no f7
    refine Br_f (show (!(decide (noteP (c.c1 * P c) (2 ^ c.c0.toNat) from_ field to) == decide (noteP (c.c1 * P c) (P c) from_ field to))) = false by rw [← eP]; cases decide (noteP (c.c1 * P c) (P c) from_ field to) <;> rfl) ?_
    refine AnyC_ord [0,1,2,3,4,5,6,7,1008,9,10,11,12,13,14,15,1016,17,18,19,20,21,23,24,25,26,1022,1027,28,29,30,31,32,33,1034,35,36,37,38,39,40,1041,42,43,44,45] T_ok mixed (by kernel_rfl) (by kernel_rfl) (Kp ?_)
    refine Br_ndec (fun g0 => ?_) (fun g0 => ?_)
    · refine ⟨⟨⟨⟨⟨⟨?_, trivial⟩, trivial⟩, trivial⟩, trivial⟩, trivial⟩, trivial⟩
      exact ⟨rfl, f.drew'⟩
    · have g0 : noteP (c.c1 * P c) (2 ^ c.c0.toNat) from_ field to := g0
      obtain ⟨n1, n2, n3, n4, n5, n6⟩ := g0
      have et : IntKind.i64.wrap (IntKind.i64.wrap to - 1) = to - 1 := by rw [wrap_i64 (n := to) (by omega) (by omega), wrap_i64 (by omega) (by omega)]
      have p := pow_pos2 c.c0.toNat
      have d1 : 0 ≤ field / 2 ^ c.c0.toNat := Int.ediv_nonneg n4.1 (by omega)
      have d2 : 0 ≤ (to - 1) / 2 ^ c.c0.toNat := Int.ediv_nonneg n5.1 (by omega)
      refine Br_dt (show to > 0 by omega) ?_
      refine LdSN_blk (vs := geoL (c.c1 * P c) (P c) (Q c) c.c1 (c.c1 * P c / Q c) (min 1048576 (c.c1 * P c - P c))) h7 rfl rfl ?_
      refine ⟨?_, trivial⟩
      refine CallC_intro (Region_spec (c.c1 * P c) (Q c) c.c1 (c.c1 * P c / Q c) (min 1048576 (c.c1 * P c - P c)) field c.c0.toNat hk w7.drew) (fun v w8 ⟨hv, f8⟩ => ?_)
      rw [if_neg (by omega)] at hv
      subst hv
      have f8 := (Fr.drew w7).no f8
      refine Sd_intro f8.old ?_
      refine Br_dt (show field / 2 ^ c.c0.toNat ≥ 0 by omega) ?_
      refine LdSN_blk (vs := geoL (c.c1 * P c) (P c) (Q c) c.c1 (c.c1 * P c / Q c) (min 1048576 (c.c1 * P c - P c))) h7 rfl rfl ?_
      refine ⟨?_, trivial⟩
      refine CallC_intro (Region_spec (c.c1 * P c) (Q c) c.c1 (c.c1 * P c / Q c) (min 1048576 (c.c1 * P c - P c)) (IntKind.i64.wrap (IntKind.i64.wrap to - 1)) c.c0.toNat hk w8) (fun v w9 ⟨hv, f9⟩ => ?_)
      rw [et, if_neg (by omega)] at hv
      subst hv
      have f9 := f8.no f9
      refine Sd_intro f9.old ?_
      refine Br_dt (show (to - 1) / 2 ^ c.c0.toNat ≥ 0 by omega) ?_
      refine LdSN_blk (vs := geoL (c.c1 * P c) (P c) (Q c) c.c1 (c.c1 * P c / Q c) (min 1048576 (c.c1 * P c - P c))) h7 rfl rfl ?_
      refine LdSN_blk (vs := geoL (c.c1 * P c) (P c) (Q c) c.c1 (c.c1 * P c / Q c) (min 1048576 (c.c1 * P c - P c))) h7 rfl rfl ?_
      refine ⟨?_, trivial⟩
      refine CallC_intro (Region_spec (c.c1 * P c) (Q c) c.c1 (c.c1 * P c / Q c) (min 1048576 (c.c1 * P c - P c)) field c.c0.toNat hk w9) (fun v w10 ⟨hv, f10⟩ => ?_)
      rw [if_neg (by omega)] at hv
      subst hv
      have f10 := f9.no f10
      refine Sd_intro f10.old ?_
      refine ⟨?_, trivial⟩
      refine CallC_intro (Region_spec (c.c1 * P c) (Q c) c.c1 (c.c1 * P c / Q c) (min 1048576 (c.c1 * P c - P c)) (IntKind.i64.wrap (IntKind.i64.wrap to - 1)) c.c0.toNat hk w10) (fun v w11 ⟨hv, f11⟩ => ?_)
      rw [et, if_neg (by omega)] at hv
      subst hv
      have f11 := f10.no f11
      refine Sd_intro f11.old ?_
      refine Br_nt n6 ?_
      refine LdSN_blk (vs := geoL (c.c1 * P c) (P c) (Q c) c.c1 (c.c1 * P c / Q c) (min 1048576 (c.c1 * P c - P c))) h7 rfl rfl ?_
      refine ⟨?_, trivial⟩
      refine CallC_intro (Note_spec (c.c1 * P c) (Q c) c.c1 (c.c1 * P c / Q c) (min 1048576 (c.c1 * P c - P c)) 1 field to c.c0.toNat hk (by omega) ht w11) (fun v w12 ⟨hv, f12⟩ => ?_)
      rw [decide_eq_false (fun e => e.1.1 rfl)] at hv
      subst hv
      have f12 := f11.no f12
      refine Sd_intro f12.old ?_
      refine LdSN_blk (vs := geoL (c.c1 * P c) (P c) (Q c) c.c1 (c.c1 * P c / Q c) (min 1048576 (c.c1 * P c - P c))) h7 rfl rfl ?_
      refine ⟨?_, trivial⟩
      refine CallC_intro (Note_spec (c.c1 * P c) (Q c) c.c1 (c.c1 * P c / Q c) (min 1048576 (c.c1 * P c - P c)) 2 field to c.c0.toNat hk (by omega) ht w12) (fun v w13 ⟨hv, f13⟩ => ?_)
      rw [decide_eq_false (fun e => e.1.2 rfl)] at hv
      subst hv
      have f13 := f12.no f13
      refine Sd_intro f13.old ?_
      exact ⟨rfl, f.no f13⟩
  · refine NewC_blk (fun g w4 hg h4 f4 _ => ?_)
    refine StN_blk h4 rfl (Nat.le_refl 6) (fun w5 h5 f5 _ => ?_)
    have f45 : Fr No w3 w5 := f4.new f5 (fun _ _ e => e) (fun k e => by omega)
    have f := ((f1.no f2).no f3).no f45
    have h5 : Blk w5 g t_geom_Geom (geoL 0 0 0 0 0 0) := h5
    refine LdN_blk (vs := geoL 0 0 0 0 0 0) h5 rfl rfl ?_
    refine RunC_intro (v := .bool true) (w' := w5) (by kernel_rfl) ?_
    exact ⟨rfl, f⟩
end Go.Proofs.Ytilhoimokegpjaa
