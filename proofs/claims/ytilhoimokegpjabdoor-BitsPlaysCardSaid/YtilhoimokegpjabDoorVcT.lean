/- The seat's own names and numbers, out of the translation's listing, by a small program. -/
import Derived.Test.YtilhoimokegpjabDoorProg
import Derived.Test.YtilhoimokegpjabDoorVcG
import Derived.KernelRfl
namespace Go.Proofs.YtilhoimokegpjabDoor
open Go.Vc
noncomputable abbrev Pr : Program := Tryd.prog
noncomputable def T : Tab := Tab.mk [
  (3, ⟨.int .i64, 1, 8, [.int .i64 0]⟩),
  (4, ⟨.bool, 1, 1, [.bool false]⟩),
  (57, ⟨.int .u64, 1, 8, [.int .u64 0]⟩),
  (25, ⟨.int .i64, 1, 8, [.int .i64 0]⟩),
  (24, ⟨.ptr 54, 1, 8, [.pointer none]⟩),
  (52, ⟨.int .u64, 1, 8, [.int .u64 0]⟩),
  (43, ⟨.slice 4, 1, 24, [.slice none 0 0]⟩),
  (51, ⟨.slice 57, 1, 24, [.slice none 0 0]⟩),
  (28, ⟨.ptr 45, 1, 8, [.pointer none]⟩),
  (47, ⟨.slice 3, 1, 24, [.slice none 0 0]⟩),
  (32, ⟨.struct [(3, 0), (3, 1), (3, 2), (4, 3)], 4, 32, [.int .i64 0, .int .i64 0, .int .i64 0, .bool false]⟩),
  (54, ⟨.struct [(3, 0), (51, 1)], 2, 32, [.int .i64 0, .slice none 0 0]⟩),
  (45, ⟨.struct [(43, 0)], 1, 24, [.slice none 0 0]⟩),
  (56, ⟨.ptr 57, 1, 8, [.pointer none]⟩),
  (61, ⟨.arr 64 5, 64, 64, List.replicate 64 (.int .u8 0)⟩),
  (5, ⟨.int .u8, 1, 1, [.int .u8 0]⟩),
  (22, ⟨.slice 32, 1, 24, [.slice none 0 0]⟩)]
  [3, 4, 5, 6, 7, 8, 9, 10, 11, 12, 13, 14, 15, 16, 17, 18, 19, 20, 21, 22, 23, 24, 25, 26, 27, 28, 49]
theorem T_ok : T.Ok Pr := tab_of (by kernel_rfl)
theorem mixed : Pr.follows .mixedOrders = true := by kernel_rfl
abbrev t_int : Nat := 3
abbrev t_bool : Nat := 4
abbrev t_uint64 : Nat := 57
abbrev t_api_Errno : Nat := 25
abbrev t_p_bits_Set : Nat := 24
abbrev t_uint : Nat := 52
abbrev t_s_bool : Nat := 43
abbrev t_s_uint64 : Nat := 51
abbrev t_p_gleanerref01_Set : Nat := 28
abbrev t_s_int : Nat := 47
abbrev t_gleanerlaw01_Act : Nat := 32
abbrev t_bits_Set : Nat := 54
abbrev t_gleanerref01_Set : Nat := 45
abbrev t_p_uint64 : Nat := 56
abbrev t__64_uint8 : Nat := 61
abbrev t_uint8 : Nat := 5
abbrev t_s_gleanerlaw01_Act : Nat := 22
abbrev g_math_bits_deBruijn64tab : Nat := 0
abbrev f_gleanerlaw01_BitsPlays : Nat := 3
theorem fun_gleanerlaw01_BitsPlays : Pr.funcs[f_gleanerlaw01_BitsPlays]? = some Tryd.f3 := Tryd.func3
abbrev f_gleanerlaw01_BitsNil : Nat := 4
theorem fun_gleanerlaw01_BitsNil : Pr.funcs[f_gleanerlaw01_BitsNil]? = some Tryd.f4 := Tryd.func4
abbrev f_gleanerlaw01_awake : Nat := 5
theorem fun_gleanerlaw01_awake : Pr.funcs[f_gleanerlaw01_awake]? = some Tryd.f5 := Tryd.func5
abbrev f_bits_New : Nat := 6
theorem fun_bits_New : Pr.funcs[f_bits_New]? = some Tryd.f6 := Tryd.func6
abbrev f_gleanerref01_New : Nat := 7
theorem fun_gleanerref01_New : Pr.funcs[f_gleanerref01_New]? = some Tryd.f7 := Tryd.func7
abbrev f_bits_Set_Put : Nat := 8
theorem fun_bits_Set_Put : Pr.funcs[f_bits_Set_Put]? = some Tryd.f8 := Tryd.func8
abbrev f_gleanerref01_Set_Put : Nat := 9
theorem fun_gleanerref01_Set_Put : Pr.funcs[f_gleanerref01_Set_Put]? = some Tryd.f9 := Tryd.func9
abbrev f_bits_Set_Drop : Nat := 10
theorem fun_bits_Set_Drop : Pr.funcs[f_bits_Set_Drop]? = some Tryd.f10 := Tryd.func10
abbrev f_gleanerref01_Set_Drop : Nat := 11
theorem fun_gleanerref01_Set_Drop : Pr.funcs[f_gleanerref01_Set_Drop]? = some Tryd.f11 := Tryd.func11
abbrev f_bits_Set_Fill : Nat := 12
theorem fun_bits_Set_Fill : Pr.funcs[f_bits_Set_Fill]? = some Tryd.f12 := Tryd.func12
abbrev f_gleanerref01_Set_Fill : Nat := 13
theorem fun_gleanerref01_Set_Fill : Pr.funcs[f_gleanerref01_Set_Fill]? = some Tryd.f13 := Tryd.func13
abbrev f_bits_Set_Has : Nat := 14
theorem fun_bits_Set_Has : Pr.funcs[f_bits_Set_Has]? = some Tryd.f14 := Tryd.func14
abbrev f_gleanerref01_Set_Has : Nat := 15
theorem fun_gleanerref01_Set_Has : Pr.funcs[f_gleanerref01_Set_Has]? = some Tryd.f15 := Tryd.func15
abbrev f_bits_Set_Next : Nat := 16
theorem fun_bits_Set_Next : Pr.funcs[f_bits_Set_Next]? = some Tryd.f16 := Tryd.func16
abbrev f_gleanerref01_Set_Next : Nat := 17
theorem fun_gleanerref01_Set_Next : Pr.funcs[f_gleanerref01_Set_Next]? = some Tryd.f17 := Tryd.func17
abbrev f_bits_Set_Count : Nat := 18
theorem fun_bits_Set_Count : Pr.funcs[f_bits_Set_Count]? = some Tryd.f18 := Tryd.func18
abbrev f_gleanerref01_Set_Count : Nat := 19
theorem fun_gleanerref01_Set_Count : Pr.funcs[f_gleanerref01_Set_Count]? = some Tryd.f19 := Tryd.func19
abbrev f_bits_Set_Len : Nat := 20
theorem fun_bits_Set_Len : Pr.funcs[f_bits_Set_Len]? = some Tryd.f20 := Tryd.func20
abbrev f_gleanerref01_Same : Nat := 21
theorem fun_gleanerref01_Same : Pr.funcs[f_gleanerref01_Same]? = some Tryd.f21 := Tryd.func21
abbrev f_bits_Set_List : Nat := 22
theorem fun_bits_Set_List : Pr.funcs[f_bits_Set_List]? = some Tryd.f22 := Tryd.func22
abbrev f_gleanerref01_Set_List : Nat := 23
theorem fun_gleanerref01_Set_List : Pr.funcs[f_gleanerref01_Set_List]? = some Tryd.f23 := Tryd.func23
abbrev f_bits_Set_check : Nat := 24
theorem fun_bits_Set_check : Pr.funcs[f_bits_Set_check]? = some Tryd.f24 := Tryd.func24
abbrev f_gleanerref01_Set_set : Nat := 25
theorem fun_gleanerref01_Set_set : Pr.funcs[f_gleanerref01_Set_set]? = some Tryd.f25 := Tryd.func25
abbrev f_bits_mask : Nat := 26
theorem fun_bits_mask : Pr.funcs[f_bits_mask]? = some Tryd.f26 := Tryd.func26
abbrev f_math_bits_TrailingZeros64 : Nat := 27
theorem fun_math_bits_TrailingZeros64 : Pr.funcs[f_math_bits_TrailingZeros64]? = some Tryd.f27 := Tryd.func27
abbrev f_math_bits_OnesCount64 : Nat := 28
theorem fun_math_bits_OnesCount64 : Pr.funcs[f_math_bits_OnesCount64]? = some Tryd.f28 := Tryd.func28
abbrev f_gosem_cut_vars : Nat := 49
theorem fun_gosem_cut_vars : Pr.funcs[f_gosem_cut_vars]? = some Tryd.f49 := Tryd.func49
end Go.Proofs.YtilhoimokegpjabDoor
