/- Law HeapNil. -/
import Derived.Test.YtdhbpklmkibmbaaGreatAwake14
import Derived.Test.YtdhbpklmkibmbaaGreatSame01
namespace Go.Proofs.YtdhbpklmkibmbaaGreat
open Go.Vc

theorem heapNil_spec (r : Int) (w : World) : CallC Pr f_gleanerlaw14_HeapNil [.int .i64 r] w (fun v w' => v = .bool true ∧ Fr No w w') := by
  refine call_sound T_ok fun_gleanerlaw14_HeapNil rfl (by kernel_rfl) rfl (Kp ?_)
  refine CallC_intro (awake14_spec w) (fun v w1 ⟨hv, f1⟩ => ?_)
  subst hv
  refine CallC_intro (Row_nil r w1) (fun v w2 ⟨hv, f2⟩ => ?_)
  subst hv
  refine CallC_intro (Object_nil 5 w2) (fun v w3 ⟨hv, f3⟩ => ?_)
  subst hv
  refine NewC_blk (fun y w4 e_y b4 f4 z4 => ?_)
  refine StN_blk (b4) rfl (Nat.le_of_ble_eq_true rfl) (fun w5 b5 f5 z5 => ?_)
  have b5 : Blk w5 y t_api_Header hd0.L := b5
  refine CallC_intro (Shape_nil w5) (fun v w6 ⟨hv, f6⟩ => ?_)
  subst hv
  refine CallC_intro (Retire_nil w6) (fun v w7 ⟨hv, f7⟩ => ?_)
  subst hv
  have b7 := (b5.keep f6 id).keep f7 id
  refine LdN_blk (vs := hd0.L) (b7) rfl rfl ?_
  refine EqS (cs := hd0.L) (ds := hd0.L) (by kernel_rfl) ?_
  refine CallC_intro (Check_nil w7) (fun v w8 ⟨hv, f8⟩ => ?_)
  subst hv
  refine NewC_blk (fun y2 w9 e_y2 b9 f9 z9 => ?_)
  refine CallC_intro (Lost_nil _ w9) (fun v w10 ⟨hv, f10⟩ => ?_)
  subst hv
  refine CallC_intro (Free_nil r w10) (fun v w11 ⟨hv, f11⟩ => ?_)
  subst hv
  refine CallC_intro (Lost_nil _ w11) (fun v w12 ⟨hv, f12⟩ => ?_)
  subst hv
  refine CallC_intro (Same_spec (.slice none 0 0) (.slice none 0 0) [] [] w12 ⟨none, 0, rfl, .inl rfl⟩ ⟨none, 0, rfl, .inl rfl⟩ (by decide)) (fun v w13 ⟨hv, f13⟩ => ?_)
  subst hv
  have f35 : Fr No w3 w5 := f4.new f5 (fun _ _ e => e) (fun k e => by omega)
  exact ⟨rfl, (((((((((((f1.no f2).no f3).no f35).no f6).no f7).no f8).no f9).no f10).no f11).no f12).no f13)⟩
end Go.Proofs.YtdhbpklmkibmbaaGreat
