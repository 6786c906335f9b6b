/- The seat's own names and numbers, out of the translation's listing, by a small program. -/
import Derived.Test.YtilhoimokegpjaaDoorProg
import Derived.Test.YtilhoimokegpjaaDoorVcG
import Derived.KernelRfl
namespace Go.Proofs.YtilhoimokegpjaaDoor
open Go.Vc
noncomputable abbrev Pr : Program := Tryd.prog
noncomputable def T : Tab := Tab.mk [
  (3, ⟨.int .i64, 1, 8, [.int .i64 0]⟩),
  (4, ⟨.bool, 1, 1, [.bool false]⟩),
  (60, ⟨.int .u64, 1, 8, [.int .u64 0]⟩),
  (27, ⟨.int .i64, 1, 8, [.int .i64 0]⟩),
  (49, ⟨.ptr 69, 1, 8, [.pointer none]⟩),
  (67, ⟨.int .u64, 1, 8, [.int .u64 0]⟩),
  (45, ⟨.slice 3, 1, 24, [.slice none 0 0]⟩),
  (26, ⟨.ptr 63, 1, 8, [.pointer none]⟩),
  (25, ⟨.struct [(3, 0), (3, 1), (3, 2), (3, 3), (3, 4), (3, 5)], 6, 48, [.int .i64 0, .int .i64 0, .int .i64 0, .int .i64 0, .int .i64 0, .int .i64 0]⟩),
  (66, ⟨.slice 60, 1, 24, [.slice none 0 0]⟩),
  (41, ⟨.slice 4, 1, 24, [.slice none 0 0]⟩),
  (69, ⟨.struct [(3, 0), (66, 1)], 2, 32, [.int .i64 0, .slice none 0 0]⟩),
  (30, ⟨.ptr 43, 1, 8, [.pointer none]⟩),
  (35, ⟨.struct [(3, 0), (3, 1)], 2, 16, [.int .i64 0, .int .i64 0]⟩),
  (43, ⟨.struct [(41, 0)], 1, 24, [.slice none 0 0]⟩),
  (48, ⟨.slice 52, 1, 24, [.slice none 0 0]⟩),
  (52, ⟨.int .u16, 1, 2, [.int .u16 0]⟩),
  (61, ⟨.int .u64, 1, 8, [.int .u64 0]⟩),
  (71, ⟨.ptr 60, 1, 8, [.pointer none]⟩),
  (63, ⟨.struct [(49, 0)], 1, 8, [.pointer none]⟩),
  (59, ⟨.int .i64, 1, 8, [.int .i64 0]⟩),
  (33, ⟨.struct [(3, 0), (3, 1), (3, 2), (3, 3), (3, 4), (3, 5)], 6, 48, [.int .i64 0, .int .i64 0, .int .i64 0, .int .i64 0, .int .i64 0, .int .i64 0]⟩),
  (75, ⟨.arr 64 5, 64, 64, List.replicate 64 (.int .u8 0)⟩),
  (5, ⟨.int .u8, 1, 1, [.int .u8 0]⟩),
  (22, ⟨.slice 35, 1, 24, [.slice none 0 0]⟩)]
  [3, 4, 5, 6, 7, 8, 9, 10, 11, 12, 13, 14, 15, 16, 17, 18, 19, 20, 21, 22, 23, 24, 25, 26, 27, 28, 29, 30, 31, 32, 33, 34, 35, 58]
theorem T_ok : T.Ok Pr := tab_of (by kernel_rfl)
theorem mixed : Pr.follows .mixedOrders = true := by kernel_rfl
abbrev t_int : Nat := 3
abbrev t_bool : Nat := 4
abbrev t_uint64 : Nat := 60
abbrev t_api_Errno : Nat := 27
abbrev t_p_bits_Set : Nat := 49
abbrev t_uint : Nat := 67
abbrev t_s_int : Nat := 45
abbrev t_p_cards_Table : Nat := 26
abbrev t_geom_Geom : Nat := 25
abbrev t_s_uint64 : Nat := 66
abbrev t_s_bool : Nat := 41
abbrev t_bits_Set : Nat := 69
abbrev t_p_gleanerref09_Table : Nat := 30
abbrev t_gleanerlaw09_Act : Nat := 35
abbrev t_gleanerref09_Table : Nat := 43
abbrev t_s_uint16 : Nat := 48
abbrev t_uint16 : Nat := 52
abbrev t_api_Ref : Nat := 61
abbrev t_p_uint64 : Nat := 71
abbrev t_cards_Table : Nat := 63
abbrev t_api_RegionState : Nat := 59
abbrev t_gleanerref02_Geom : Nat := 33
abbrev t__64_uint8 : Nat := 75
abbrev t_uint8 : Nat := 5
abbrev t_s_gleanerlaw09_Act : Nat := 22
abbrev g_math_bits_deBruijn64tab : Nat := 0
abbrev f_gleanerlaw09_CardsPlays : Nat := 3
theorem fun_gleanerlaw09_CardsPlays : Pr.funcs[f_gleanerlaw09_CardsPlays]? = some Tryd.f3 := Tryd.func3
abbrev f_gleanerlaw09_CardsNil : Nat := 4
theorem fun_gleanerlaw09_CardsNil : Pr.funcs[f_gleanerlaw09_CardsNil]? = some Tryd.f4 := Tryd.func4
abbrev f_gleanerlaw01_BitsCounts : Nat := 5
theorem fun_gleanerlaw01_BitsCounts : Pr.funcs[f_gleanerlaw01_BitsCounts]? = some Tryd.f5 := Tryd.func5
abbrev f_gleanerlaw01_BitsApart : Nat := 6
theorem fun_gleanerlaw01_BitsApart : Pr.funcs[f_gleanerlaw01_BitsApart]? = some Tryd.f6 := Tryd.func6
abbrev f_gleanerlaw09_awake : Nat := 7
theorem fun_gleanerlaw09_awake : Pr.funcs[f_gleanerlaw09_awake]? = some Tryd.f7 := Tryd.func7
abbrev f_cards_New : Nat := 8
theorem fun_cards_New : Pr.funcs[f_cards_New]? = some Tryd.f8 := Tryd.func8
abbrev f_gleanerref09_New : Nat := 9
theorem fun_gleanerref09_New : Pr.funcs[f_gleanerref09_New]? = some Tryd.f9 := Tryd.func9
abbrev f_cards_Table_Dirty : Nat := 10
theorem fun_cards_Table_Dirty : Pr.funcs[f_cards_Table_Dirty]? = some Tryd.f10 := Tryd.func10
abbrev f_gleanerref09_Table_Set : Nat := 11
theorem fun_gleanerref09_Table_Set : Pr.funcs[f_gleanerref09_Table_Set]? = some Tryd.f11 := Tryd.func11
abbrev f_cards_Table_Clean : Nat := 12
theorem fun_cards_Table_Clean : Pr.funcs[f_cards_Table_Clean]? = some Tryd.f12 := Tryd.func12
abbrev f_cards_Table_Is : Nat := 13
theorem fun_cards_Table_Is : Pr.funcs[f_cards_Table_Is]? = some Tryd.f13 := Tryd.func13
abbrev f_gleanerref01_Same : Nat := 14
theorem fun_gleanerref01_Same : Pr.funcs[f_gleanerref01_Same]? = some Tryd.f14 := Tryd.func14
abbrev f_cards_Table_List : Nat := 15
theorem fun_cards_Table_List : Pr.funcs[f_cards_Table_List]? = some Tryd.f15 := Tryd.func15
abbrev f_gleanerref09_Table_List : Nat := 16
theorem fun_gleanerref09_Table_List : Pr.funcs[f_gleanerref09_Table_List]? = some Tryd.f16 := Tryd.func16
abbrev f_gleanerlaw01_awake : Nat := 17
theorem fun_gleanerlaw01_awake : Pr.funcs[f_gleanerlaw01_awake]? = some Tryd.f17 := Tryd.func17
abbrev f_bits_New : Nat := 18
theorem fun_bits_New : Pr.funcs[f_bits_New]? = some Tryd.f18 := Tryd.func18
abbrev f_bits_Set_Has : Nat := 19
theorem fun_bits_Set_Has : Pr.funcs[f_bits_Set_Has]? = some Tryd.f19 := Tryd.func19
abbrev f_bits_Set_Put : Nat := 20
theorem fun_bits_Set_Put : Pr.funcs[f_bits_Set_Put]? = some Tryd.f20 := Tryd.func20
abbrev f_bits_Set_Count : Nat := 21
theorem fun_bits_Set_Count : Pr.funcs[f_bits_Set_Count]? = some Tryd.f21 := Tryd.func21
abbrev f_bits_Set_List : Nat := 22
theorem fun_bits_Set_List : Pr.funcs[f_bits_Set_List]? = some Tryd.f22 := Tryd.func22
abbrev f_bits_Set_Next : Nat := 23
theorem fun_bits_Set_Next : Pr.funcs[f_bits_Set_Next]? = some Tryd.f23 := Tryd.func23
abbrev f_gleanerlaw09_small : Nat := 24
theorem fun_gleanerlaw09_small : Pr.funcs[f_gleanerlaw09_small]? = some Tryd.f24 := Tryd.func24
abbrev f_cards_Note : Nat := 25
theorem fun_cards_Note : Pr.funcs[f_cards_Note]? = some Tryd.f25 := Tryd.func25
abbrev f_bits_Set_Drop : Nat := 26
theorem fun_bits_Set_Drop : Pr.funcs[f_bits_Set_Drop]? = some Tryd.f26 := Tryd.func26
abbrev f_bits_Set_Fill : Nat := 27
theorem fun_bits_Set_Fill : Pr.funcs[f_bits_Set_Fill]? = some Tryd.f27 := Tryd.func27
abbrev f_bits_Set_Len : Nat := 28
theorem fun_bits_Set_Len : Pr.funcs[f_bits_Set_Len]? = some Tryd.f28 := Tryd.func28
abbrev f_bits_Set_check : Nat := 29
theorem fun_bits_Set_check : Pr.funcs[f_bits_Set_check]? = some Tryd.f29 := Tryd.func29
abbrev f_math_bits_OnesCount64 : Nat := 30
theorem fun_math_bits_OnesCount64 : Pr.funcs[f_math_bits_OnesCount64]? = some Tryd.f30 := Tryd.func30
abbrev f_bits_mask : Nat := 31
theorem fun_bits_mask : Pr.funcs[f_bits_mask]? = some Tryd.f31 := Tryd.func31
abbrev f_math_bits_TrailingZeros64 : Nat := 32
theorem fun_math_bits_TrailingZeros64 : Pr.funcs[f_math_bits_TrailingZeros64]? = some Tryd.f32 := Tryd.func32
abbrev f_geom_Geom_Cross : Nat := 33
theorem fun_geom_Geom_Cross : Pr.funcs[f_geom_Geom_Cross]? = some Tryd.f33 := Tryd.func33
abbrev f_geom_Geom_Region : Nat := 34
theorem fun_geom_Geom_Region : Pr.funcs[f_geom_Geom_Region]? = some Tryd.f34 := Tryd.func34
abbrev f_geom_log : Nat := 35
theorem fun_geom_log : Pr.funcs[f_geom_log]? = some Tryd.f35 := Tryd.func35
abbrev f_gosem_cut_vars : Nat := 58
theorem fun_gosem_cut_vars : Pr.funcs[f_gosem_cut_vars]? = some Tryd.f58 := Tryd.func58
end Go.Proofs.YtilhoimokegpjaaDoor
