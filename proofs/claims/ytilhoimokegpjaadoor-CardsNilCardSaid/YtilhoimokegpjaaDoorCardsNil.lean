/- CardsNil's walk. -/
import Derived.Test.YtilhoimokegpjaaDoorCardTab
namespace Go.Proofs.YtilhoimokegpjaaDoor
open Go.Vc
theorem CardsNil_spec (i : Int) (w : World) : CallC Pr f_gleanerlaw09_CardsNil [.int .i64 i] w (fun v w' => v = .bool true ∧ Fr No w w') := by
  refine call_sound T_ok fun_gleanerlaw09_CardsNil rfl (by kernel_rfl) rfl (Kp ?_)
  refine CallC_intro (awake09_spec w) (fun v w1 ⟨hv, f⟩ => ?_)
  subst hv
  refine CallC_intro (Dirty_nil i w1) (fun v w2 ⟨hv, f1⟩ => ?_)
  subst hv
  have f := f.no f1
  refine CallC_intro (Clean_nil i w2) (fun v w3 ⟨hv, f1⟩ => ?_)
  subst hv
  have f := f.no f1
  refine CallC_intro (Is_nil i w3) (fun v w4 ⟨hv, f1⟩ => ?_)
  subst hv
  have f := f.no f1
  refine CallC_intro (cards_List_nil w4) (fun v w5 ⟨hv, f1⟩ => ?_)
  subst hv
  exact ⟨rfl, f.no f1⟩
end Go.Proofs.YtilhoimokegpjaaDoor
