/- Layer 7 (region): a table that isn't there. -/
import Derived.Test.YtilhoimokegpjabRegion4
namespace Go.Proofs.Ytilhoimokegpjab
open Go.Vc

theorem SetTop_nil (i n : Int) (w : World) : CallC Pr f_region_Table_SetTop [.pointer none, .int .i64 i, .int .i64 n] w (fun v w' => v = .int .i64 1 ∧ Fr No w w') := by
  refine call_sound T_ok fun_region_Table_SetTop rfl (by kernel_rfl) rfl ?_
  refine CallC_intro (at_nil i w) (fun v w1 ⟨hv, f1⟩ => ?_)
  subst hv
  exact ⟨rfl, f1⟩
theorem Mark_nil (i : Int) (w : World) : CallC Pr f_region_Table_Mark [.pointer none, .int .i64 i] w (fun v w' => v = .int .i64 1 ∧ Fr No w w') := by
  refine call_sound T_ok fun_region_Table_Mark rfl (by kernel_rfl) rfl ?_
  refine CallC_intro (at_nil i w) (fun v w1 ⟨hv, f1⟩ => ?_)
  subst hv
  exact ⟨rfl, f1⟩
theorem Turn_nil (i n : Int) (w : World) : CallC Pr f_region_Table_Turn [.pointer none, .int .i64 i, .int .i64 n] w (fun v w' => v = .int .i64 1 ∧ Fr No w w') := by
  refine call_sound T_ok fun_region_Table_Turn rfl (by kernel_rfl) rfl ?_
  refine CallC_intro (at_nil i w) (fun v w1 ⟨hv, f1⟩ => ?_)
  subst hv
  exact ⟨rfl, f1⟩
theorem Release_nil (i : Int) (w : World) : CallC Pr f_region_Table_Release [.pointer none, .int .i64 i] w (fun v w' => v = .int .i64 1 ∧ Fr No w w') := by
  refine call_sound T_ok fun_region_Table_Release rfl (by kernel_rfl) rfl ?_
  refine CallC_intro (at_nil i w) (fun v w1 ⟨hv, f1⟩ => ?_)
  subst hv
  exact ⟨rfl, f1⟩
theorem State_nil (i : Int) (w : World) : CallC Pr f_region_Table_State [.pointer none, .int .i64 i] w (fun v w' => v = .int .i64 0 ∧ Fr No w w') := by
  refine call_sound T_ok fun_region_Table_State rfl (by kernel_rfl) rfl ?_
  refine CallC_intro (at_nil i w) (fun v w1 ⟨hv, f1⟩ => ?_)
  subst hv
  exact ⟨rfl, f1⟩
theorem Top_nil (i : Int) (w : World) : CallC Pr f_region_Table_Top [.pointer none, .int .i64 i] w (fun v w' => v = .int .i64 0 ∧ Fr No w w') := by
  refine call_sound T_ok fun_region_Table_Top rfl (by kernel_rfl) rfl ?_
  refine CallC_intro (at_nil i w) (fun v w1 ⟨hv, f1⟩ => ?_)
  subst hv
  exact ⟨rfl, f1⟩
theorem Tams_nil (i : Int) (w : World) : CallC Pr f_region_Table_Tams [.pointer none, .int .i64 i] w (fun v w' => v = .int .i64 0 ∧ Fr No w w') := by
  refine call_sound T_ok fun_region_Table_Tams rfl (by kernel_rfl) rfl ?_
  refine CallC_intro (at_nil i w) (fun v w1 ⟨hv, f1⟩ => ?_)
  subst hv
  exact ⟨rfl, f1⟩
theorem RegionNil_spec (k a b s : Int) (w : World) : CallC Pr f_gleanerlaw07_RegionNil [.agg #[.int .i64 k, .int .i64 a, .int .i64 b, .int .i64 s]] w (fun v w' => v = .bool true ∧ Fr No w w') := by
  refine call_sound T_ok fun_gleanerlaw07_RegionNil rfl (by kernel_rfl) rfl ?_
  refine NewC_blk (fun p w1 hp h f0 _ => ?_)
  refine CallC_intro (awake7_spec w1) (fun v w2 ⟨hv, f⟩ => ?_)
  subst hv
  have h := h.keep f id
  have f := f0.no f
  refine LdC_blk h rfl ?_
  refine CallC_intro (Claim_nil _ w2) (fun v w3 ⟨hv, f1⟩ => ?_)
  subst hv
  have h := h.keep f1 id
  have f := f.no f1
  refine LdC_blk h rfl ?_
  refine LdC_blk h rfl ?_
  refine CallC_intro (Run_nil _ _ w3) (fun v w4 ⟨hv, f1⟩ => ?_)
  subst hv
  have h := h.keep f1 id
  have f := f.no f1
  refine LdC_blk h rfl ?_
  refine LdC_blk h rfl ?_
  refine CallC_intro (Bump_nil _ _ w4) (fun v w5 ⟨hv, f1⟩ => ?_)
  subst hv
  have h := h.keep f1 id
  have f := f.no f1
  refine LdC_blk h rfl ?_
  refine LdC_blk h rfl ?_
  refine CallC_intro (SetTop_nil _ _ w5) (fun v w6 ⟨hv, f1⟩ => ?_)
  subst hv
  have h := h.keep f1 id
  have f := f.no f1
  refine LdC_blk h rfl ?_
  refine CallC_intro (Mark_nil _ w6) (fun v w7 ⟨hv, f1⟩ => ?_)
  subst hv
  have h := h.keep f1 id
  have f := f.no f1
  refine LdC_blk h rfl ?_
  refine LdC_blk h rfl ?_
  refine CallC_intro (Turn_nil _ _ w7) (fun v w8 ⟨hv, f1⟩ => ?_)
  subst hv
  have h := h.keep f1 id
  have f := f.no f1
  refine LdC_blk h rfl ?_
  refine CallC_intro (Release_nil _ w8) (fun v w9 ⟨hv, f1⟩ => ?_)
  subst hv
  have h := h.keep f1 id
  have f := f.no f1
  refine LdC_blk h rfl ?_
  refine CallC_intro (State_nil _ w9) (fun v w10 ⟨hv, f1⟩ => ?_)
  subst hv
  have h := h.keep f1 id
  have f := f.no f1
  refine LdC_blk h rfl ?_
  refine CallC_intro (Top_nil _ w10) (fun v w11 ⟨hv, f1⟩ => ?_)
  subst hv
  have h := h.keep f1 id
  have f := f.no f1
  refine LdC_blk h rfl ?_
  refine CallC_intro (Tams_nil _ w11) (fun v w12 ⟨hv, f1⟩ => ?_)
  subst hv
  have h := h.keep f1 id
  have f := f.no f1
  refine LdC_blk h rfl ?_
  refine CallC_intro (List_nil _ w12) (fun v w13 ⟨hv, f1⟩ => ?_)
  subst hv
  have h := h.keep f1 id
  have f := f.no f1
  exact ⟨rfl, f⟩
end Go.Proofs.Ytilhoimokegpjab
