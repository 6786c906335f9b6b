/- Layer 2 (geom): awake, GeomSpans. -/
import Derived.Test.YtilhoimokegpjaaGeom5
namespace Go.Proofs.Ytilhoimokegpjaa
open Go.Vc

def cfgS : Cfg := ⟨6, 4, 3, 1, 4, 0, 0, 1, 0, 0, 0, 0, 0, 0⟩
theorem validS : Valid cfgS := by
  refine ⟨by decide, by decide, by decide, by decide, by decide, fun k x hx => ?_⟩
  have hk := (List.getElem?_eq_some_iff.1 hx).1
  have hm := List.mem_of_getElem? hx
  have : ∀ y ∈ lims cfgS, y.2.1 ≤ y.1 ∧ y.1 ≤ y.2.2 := by decide
  exact this x hm
theorem geoS : geoOf cfgS = geoV 256 64 8 4 32 192 := rfl
theorem small2_spec (w : World) : CallC Pr f_gleanerlaw02_small [] w (fun v w' => v = cfgV cfgS ∧ Fr No w w') := by
  refine call_sound T_ok fun_gleanerlaw02_small rfl (by kernel_rfl) rfl ?_
  refine NewC_blk (fun b w1 hb h1 f1 _ => ?_)
  refine StN_blk h1 rfl (Nat.le_refl 14) (fun w2 h2 f2 _ => ?_)
  have h2 := h2.of_eq (cs' := cfgL cfgS) (by kernel_rfl)
  refine LdN_blk (vs := cfgL cfgS) h2 rfl rfl ?_
  exact ⟨rfl, f1.new f2 (fun _ _ e => e) (fun _ e => by omega)⟩
theorem awake2_spec (w : World) : CallC Pr f_gleanerlaw02_awake [] w (fun v w' => v = .bool true ∧ Fr No w w') := by
  have e6 : (2 : Int) ^ 6 = 64 := by decide
  have e3 : (2 : Int) ^ 3 = 8 := by decide
  refine call_sound T_ok fun_gleanerlaw02_awake rfl (by kernel_rfl) rfl ?_
  refine CallC_intro (small2_spec w) (fun v w1 ⟨hv, f1⟩ => ?_)
  subst hv
  refine CallC_intro (geom_New_spec cfgS w1) (fun v w2 ⟨hv, f2⟩ => ?_)
  rcases hv with ⟨_, hv⟩ | ⟨hn, _⟩
  · rw [geoS] at hv
    subst hv
    refine NewC_blk (fun p w3 hp h3 f3 _ => ?_)
    refine StN_blk h3 rfl (Nat.le_refl 6) (fun w4 h4 f4 _ => ?_)
    have h4 : Blk w4 p 29 (geoL 256 64 8 4 32 192) := h4
    have f24 : Fr No w2 w4 := f3.new f4 (fun _ _ e => e) (fun _ e => by omega)
    have f := (f1.no f2).no f24
    refine LdN_blk (vs := geoL 256 64 8 4 32 192) h4 rfl rfl ?_
    have B := Base_spec 256 8 4 32 192 3 6 (by omega) (by decide) w4
    rw [if_neg (by decide), e6] at B
    refine CallC_intro B (fun v w5 ⟨hv, f5⟩ => ?_)
    subst hv
    have h5 := h4.keep f5 id
    have f := f.no f5
    refine LdC_blk h5 rfl ?_
    refine LdC_blk h5 rfl ?_
    refine LdN_blk (vs := geoL 256 64 8 4 32 192) h5 rfl rfl ?_
    have B := Region_spec 256 8 4 32 192 64 6 (by omega) w5
    rw [if_neg (by decide), e6] at B
    refine CallC_intro B (fun v w6 ⟨hv, f6⟩ => ?_)
    subst hv
    have h6 := h5.keep f6 id
    have f := f.no f6
    refine LdN_blk (vs := geoL 256 64 8 4 32 192) h6 rfl rfl ?_
    have B := Card_spec 256 64 4 32 192 63 3 (by omega) w6
    rw [if_neg (by decide), e3] at B
    refine CallC_intro B (fun v w7 ⟨hv, f7⟩ => ?_)
    subst hv
    have h7 := h6.keep f7 id
    have f := f.no f7
    refine LdN_blk (vs := geoL 256 64 8 4 32 192) h7 rfl rfl ?_
    have B := Cross_spec 256 8 4 32 192 63 64 6 (by omega) (by omega) w7
    rw [decide_eq_true (by decide), e6] at B
    refine CallC_intro B (fun v w8 ⟨hv, f8⟩ => ?_)
    subst hv
    have h8 := h7.keep f8 id
    have f := f.no f8
    refine LdN_blk (vs := geoL 256 64 8 4 32 192) h8 rfl rfl ?_
    have B := Big_spec 256 64 8 4 32 192 33 w8
    rw [decide_eq_true (by decide)] at B
    refine CallC_intro B (fun v w9 ⟨hv, f9⟩ => ?_)
    subst hv
    have h9 := h8.keep f9 id
    have f := f.no f9
    refine LdN_blk (vs := geoL 256 64 8 4 32 192) h9 rfl rfl ?_
    have B := Span_spec 256 8 4 32 192 65 6 (by omega) (by omega) (by omega) w9
    rw [if_neg (by decide), e6] at B
    refine CallC_intro B (fun v w10 ⟨hv, f10⟩ => ?_)
    subst hv
    exact ⟨rfl, f.no f10⟩
  · exact absurd validS hn
end Go.Proofs.Ytilhoimokegpjaa
