/- BitsNil's walk. -/
import Derived.Test.YtilhoimokegpjabDoorBits01
namespace Go.Proofs.YtilhoimokegpjabDoor
open Go.Vc
theorem BitsNil_spec (i k : Int) (on : Bool) (w : World) (hT : Tab64 w) : CallC Pr f_gleanerlaw01_BitsNil [.int .i64 i, .int .i64 k, .bool on] w (fun v w' => v = .bool true ∧ Fr No w w') := by
  refine call_sound T_ok fun_gleanerlaw01_BitsNil rfl (by kernel_rfl) rfl (Kp ?_)
  refine CallC_intro (awake01_spec w hT) (fun v w1 ⟨hv, f⟩ => ?_)
  subst hv
  refine CallC_intro (Put_nil i w1) (fun v w2 ⟨hv, f1⟩ => ?_)
  subst hv
  have f := f.no f1
  refine CallC_intro (Drop_nil i w2) (fun v w3 ⟨hv, f1⟩ => ?_)
  subst hv
  have f := f.no f1
  refine CallC_intro (Fill_nil i k on w3) (fun v w4 ⟨hv, f1⟩ => ?_)
  subst hv
  have f := f.no f1
  refine CallC_intro (bits_Len_nil w4) (fun v w5 ⟨hv, f1⟩ => ?_)
  subst hv
  have f := f.no f1
  refine CallC_intro (Has_nil i w5) (fun v w6 ⟨hv, f1⟩ => ?_)
  subst hv
  have f := f.no f1
  refine CallC_intro (Next_nil i w6) (fun v w7 ⟨hv, f1⟩ => ?_)
  subst hv
  have f := f.no f1
  refine CallC_intro (Count_nil i k w7) (fun v w8 ⟨hv, f1⟩ => ?_)
  subst hv
  have f := f.no f1
  refine CallC_intro (List_nil w8) (fun v w9 ⟨hv, f1⟩ => ?_)
  subst hv
  exact ⟨rfl, f.no f1⟩
end Go.Proofs.YtilhoimokegpjabDoor
