/- The seat's own names and numbers, out of the translation's listing, by a small program. -/
import Derived.Test.YtfokdnmidfmddaaDoorProg
import Derived.Test.YtfokdnmidfmddaaDoorVcG
import Derived.KernelRfl
namespace Go.Proofs.YtfokdnmidfmddaaDoor
open Go.Vc
noncomputable abbrev Pr : Program := Tryd.prog
noncomputable def T : Tab := Tab.mk [
  (3, ⟨.int .i64, 1, 8, [.int .i64 0]⟩),
  (4, ⟨.bool, 1, 1, [.bool false]⟩),
  (35, ⟨.slice 3, 1, 24, [.slice none 0 0]⟩),
  (60, ⟨.struct [(3, 0), (3, 1)], 2, 16, [.int .i64 0, .int .i64 0]⟩),
  (90, ⟨.slice 60, 1, 24, [.slice none 0 0]⟩),
  (82, ⟨.int .u64, 1, 8, [.int .u64 0]⟩),
  (24, ⟨.ptr 58, 1, 8, [.pointer none]⟩),
  (25, ⟨.int .i64, 1, 8, [.int .i64 0]⟩),
  (72, ⟨.slice 78, 1, 24, [.slice none 0 0]⟩),
  (78, ⟨.slice 80, 1, 24, [.slice none 0 0]⟩),
  (86, ⟨.int .u64, 1, 8, [.int .u64 0]⟩),
  (39, ⟨.ptr 74, 1, 8, [.pointer none]⟩),
  (63, ⟨.ptr 85, 1, 8, [.pointer none]⟩),
  (74, ⟨.struct [(3, 0), (3, 1), (72, 2)], 3, 40, [.int .i64 0, .int .i64 0, .slice none 0 0]⟩),
  (123, ⟨.int .u64, 1, 8, [.int .u64 0]⟩),
  (58, ⟨.struct [(3, 0), (3, 1), (54, 2), (55, 3), (56, 4)], 5, 40, [.int .i64 0, .int .i64 0, .map none, .map none, .map none]⟩),
  (93, ⟨.func, 1, 8, [.nilFunc]⟩),
  (29, ⟨.struct [(3, 0), (3, 1), (3, 2), (3, 3), (3, 4), (3, 5)], 6, 48, [.int .i64 0, .int .i64 0, .int .i64 0, .int .i64 0, .int .i64 0, .int .i64 0]⟩),
  (80, ⟨.struct [(3, 0), (3, 1), (35, 2)], 3, 40, [.int .i64 0, .int .i64 0, .slice none 0 0]⟩),
  (55, ⟨.map 60 63, 1, 8, [.map none]⟩),
  (45, ⟨.struct [(3, 0), (3, 1), (3, 2)], 3, 24, [.int .i64 0, .int .i64 0, .int .i64 0]⟩),
  (108, ⟨.int .i64, 1, 8, [.int .i64 0]⟩),
  (54, ⟨.map 60 35, 1, 8, [.map none]⟩),
  (5, ⟨.int .u8, 1, 1, [.int .u8 0]⟩),
  (46, ⟨.int .i64, 1, 8, [.int .i64 0]⟩),
  (56, ⟨.map 60 4, 1, 8, [.map none]⟩),
  (42, ⟨.struct [(3, 0), (3, 1), (3, 2), (3, 3), (3, 4), (3, 5)], 6, 48, [.int .i64 0, .int .i64 0, .int .i64 0, .int .i64 0, .int .i64 0, .int .i64 0]⟩),
  (83, ⟨.slice 82, 1, 24, [.slice none 0 0]⟩),
  (116, ⟨.int .u32, 1, 4, [.int .u32 0]⟩),
  (85, ⟨.struct [(3, 0), (83, 1)], 2, 32, [.int .i64 0, .slice none 0 0]⟩),
  (22, ⟨.slice 5, 1, 24, [.slice none 0 0]⟩),
  (127, ⟨.ptr 3, 1, 8, [.pointer none]⟩),
  (68, ⟨.func, 1, 8, [.nilFunc]⟩),
  (131, ⟨.ptr 123, 1, 8, [.pointer none]⟩),
  (50, ⟨.arr 64 4, 64, 64, List.replicate 64 (.bool false)⟩),
  (91, ⟨.func, 1, 8, [.nilFunc]⟩),
  (38, ⟨.slice 45, 1, 24, [.slice none 0 0]⟩),
  (51, ⟨.arr 8 50, 512, 512, List.replicate 512 (.bool false)⟩),
  (81, ⟨.ptr 82, 1, 8, [.pointer none]⟩),
  (122, ⟨.arr 64 5, 64, 64, List.replicate 64 (.int .u8 0)⟩),
  (9, ⟨.str, 1, 16, [.string ByteArray.empty]⟩),
  (96, ⟨.func, 1, 8, [.nilFunc]⟩),
  (98, ⟨.func, 1, 8, [.nilFunc]⟩),
  (100, ⟨.func, 1, 8, [.nilFunc]⟩),
  (20, ⟨.iface, 1, 16, [.nilIface]⟩)]
  [3, 4, 5, 6, 7, 8, 9, 10, 11, 12, 13, 14, 15, 16, 17, 18, 19, 20, 21, 22, 23, 24, 25, 26, 27, 28, 29, 30, 31, 32, 33, 34, 35, 36, 37, 38, 39, 40, 41, 42, 43, 44, 45, 46, 47, 48, 49, 50, 51, 52, 53, 54, 55, 56, 57, 58, 59, 60, 61, 62, 63, 64, 65, 66, 67, 68, 69, 70, 71, 72, 73, 74, 75, 76, 77, 78, 79, 80, 81, 82, 83, 84, 85, 86, 87, 88, 89, 90, 91, 115]
theorem T_ok : T.Ok Pr := tab_of (by kernel_rfl)
theorem mixed : Pr.follows .mixedOrders = true := by kernel_rfl
abbrev t_int : Nat := 3
abbrev t_bool : Nat := 4
abbrev t_s_int : Nat := 35
abbrev t_remset_pair : Nat := 60
abbrev t_s_remset_pair : Nat := 90
abbrev t_uint64 : Nat := 82
abbrev t_p_remset_Sets : Nat := 24
abbrev t_api_Errno : Nat := 25
abbrev t_s_s_gleanerref11_Source : Nat := 72
abbrev t_s_gleanerref11_Source : Nat := 78
abbrev t_uint : Nat := 86
abbrev t_p_gleanerref11_Sets : Nat := 39
abbrev t_p_bits_Set : Nat := 63
abbrev t_gleanerref11_Sets : Nat := 74
abbrev t_slices_xorshift : Nat := 123
abbrev t_remset_Sets : Nat := 58
abbrev t_geom_Geom : Nat := 29
abbrev t_gleanerref11_Source : Nat := 80
abbrev t_map_remset_pair_p_bits_Set : Nat := 55
abbrev t_gleanerlaw11_Act : Nat := 45
abbrev t_slices_sortedHint : Nat := 108
abbrev t_map_remset_pair_s_int : Nat := 54
abbrev t_uint8 : Nat := 5
abbrev t_remset_Way : Nat := 46
abbrev t_map_remset_pair_bool : Nat := 56
abbrev t_gleanerref02_Geom : Nat := 42
abbrev t_s_uint64 : Nat := 83
abbrev t_uint32 : Nat := 116
abbrev t_bits_Set : Nat := 85
abbrev t_s_uint8 : Nat := 22
abbrev t_p_int : Nat := 127
abbrev t_p_slices_xorshift : Nat := 131
abbrev t__64_bool : Nat := 50
abbrev t_s_gleanerlaw11_Act : Nat := 38
abbrev t__8__64_bool : Nat := 51
abbrev t_p_uint64 : Nat := 81
abbrev t__64_uint8 : Nat := 122
abbrev t_string : Nat := 9
abbrev t_interface___ : Nat := 20
theorem zv_bool : ∀ w, (zeroValue 4).run Pr w = .ok (.bool false) w := @Tryd.zeroValue4
theorem zv_s_int : ∀ w, (zeroValue 35).run Pr w = .ok (.slice none 0 0) w := @Tryd.zeroValue35
theorem zv_p_bits_Set : ∀ w, (zeroValue 63).run Pr w = .ok (.pointer none) w := @Tryd.zeroValue63
abbrev g_math_bits_deBruijn64tab : Nat := 0
abbrev f_gleanerlaw11_RemsetApart : Nat := 3
theorem fun_gleanerlaw11_RemsetApart : Pr.funcs[f_gleanerlaw11_RemsetApart]? = some Tryd.f3 := Tryd.func3
abbrev f_gleanerlaw11_RemsetPlays : Nat := 4
theorem fun_gleanerlaw11_RemsetPlays : Pr.funcs[f_gleanerlaw11_RemsetPlays]? = some Tryd.f4 := Tryd.func4
abbrev f_gleanerlaw11_RemsetKeeps : Nat := 5
theorem fun_gleanerlaw11_RemsetKeeps : Pr.funcs[f_gleanerlaw11_RemsetKeeps]? = some Tryd.f5 := Tryd.func5
abbrev f_gleanerlaw11_RemsetNil : Nat := 6
theorem fun_gleanerlaw11_RemsetNil : Pr.funcs[f_gleanerlaw11_RemsetNil]? = some Tryd.f6 := Tryd.func6
abbrev f_gleanerlaw11_awake : Nat := 7
theorem fun_gleanerlaw11_awake : Pr.funcs[f_gleanerlaw11_awake]? = some Tryd.f7 := Tryd.func7
abbrev f_remset_New : Nat := 8
theorem fun_remset_New : Pr.funcs[f_remset_New]? = some Tryd.f8 := Tryd.func8
abbrev f_gleanerlaw11_small : Nat := 9
theorem fun_gleanerlaw11_small : Pr.funcs[f_gleanerlaw11_small]? = some Tryd.f9 := Tryd.func9
abbrev f_remset_Sets_Add : Nat := 10
theorem fun_remset_Sets_Add : Pr.funcs[f_remset_Sets_Add]? = some Tryd.f10 := Tryd.func10
abbrev f_remset_Sets_Clear : Nat := 11
theorem fun_remset_Sets_Clear : Pr.funcs[f_remset_Sets_Clear]? = some Tryd.f11 := Tryd.func11
abbrev f_gleanerref01_Same : Nat := 12
theorem fun_gleanerref01_Same : Pr.funcs[f_gleanerref01_Same]? = some Tryd.f12 := Tryd.func12
abbrev f_remset_Sets_Cards : Nat := 13
theorem fun_remset_Sets_Cards : Pr.funcs[f_remset_Sets_Cards]? = some Tryd.f13 := Tryd.func13
abbrev f_gleanerref11_New : Nat := 14
theorem fun_gleanerref11_New : Pr.funcs[f_gleanerref11_New]? = some Tryd.f14 := Tryd.func14
abbrev f_gleanerlaw11_step : Nat := 15
theorem fun_gleanerlaw11_step : Pr.funcs[f_gleanerlaw11_step]? = some Tryd.f15 := Tryd.func15
abbrev f_gleanerref11_Sets_Cards : Nat := 16
theorem fun_gleanerref11_Sets_Cards : Pr.funcs[f_gleanerref11_Sets_Cards]? = some Tryd.f16 := Tryd.func16
abbrev f_remset_Sets_Way : Nat := 17
theorem fun_remset_Sets_Way : Pr.funcs[f_remset_Sets_Way]? = some Tryd.f17 := Tryd.func17
abbrev f_gleanerref11_Sets_Way : Nat := 18
theorem fun_gleanerref11_Sets_Way : Pr.funcs[f_gleanerref11_Sets_Way]? = some Tryd.f18 := Tryd.func18
abbrev f_remset_Sets_Scrub : Nat := 19
theorem fun_remset_Sets_Scrub : Pr.funcs[f_remset_Sets_Scrub]? = some Tryd.f19 := Tryd.func19
abbrev f_remset_Sets_Has : Nat := 20
theorem fun_remset_Sets_Has : Pr.funcs[f_remset_Sets_Has]? = some Tryd.f20 := Tryd.func20
abbrev f_remset_Sets_key : Nat := 21
theorem fun_remset_Sets_key : Pr.funcs[f_remset_Sets_key]? = some Tryd.f21 := Tryd.func21
abbrev f_bits_Set_Put : Nat := 22
theorem fun_bits_Set_Put : Pr.funcs[f_bits_Set_Put]? = some Tryd.f22 := Tryd.func22
abbrev f_slices_Contains___int_int_ : Nat := 23
theorem fun_slices_Contains___int_int_ : Pr.funcs[f_slices_Contains___int_int_]? = some Tryd.f23 := Tryd.func23
abbrev f_remset_Sets_refine : Nat := 24
theorem fun_remset_Sets_refine : Pr.funcs[f_remset_Sets_refine]? = some Tryd.f24 := Tryd.func24
abbrev f_remset_Sets_forget : Nat := 25
theorem fun_remset_Sets_forget : Pr.funcs[f_remset_Sets_forget]? = some Tryd.f25 := Tryd.func25
abbrev f_remset_Sets_Clear_1 : Nat := 26
theorem fun_remset_Sets_Clear_1 : Pr.funcs[f_remset_Sets_Clear_1]? = some Tryd.f26 := Tryd.func26
abbrev f_remset_Sets_region : Nat := 27
theorem fun_remset_Sets_region : Pr.funcs[f_remset_Sets_region]? = some Tryd.f27 := Tryd.func27
abbrev f_bits_Set_List : Nat := 28
theorem fun_bits_Set_List : Pr.funcs[f_bits_Set_List]? = some Tryd.f28 := Tryd.func28
abbrev f_slices_Sort___int_int_ : Nat := 29
theorem fun_slices_Sort___int_int_ : Pr.funcs[f_slices_Sort___int_int_]? = some Tryd.f29 := Tryd.func29
abbrev f_gleanerref11_Sets_Clear : Nat := 30
theorem fun_gleanerref11_Sets_Clear : Pr.funcs[f_gleanerref11_Sets_Clear]? = some Tryd.f30 := Tryd.func30
abbrev f_gleanerref11_Sets_Scrub : Nat := 31
theorem fun_gleanerref11_Sets_Scrub : Pr.funcs[f_gleanerref11_Sets_Scrub]? = some Tryd.f31 := Tryd.func31
abbrev f_gleanerref11_Sets_Has : Nat := 32
theorem fun_gleanerref11_Sets_Has : Pr.funcs[f_gleanerref11_Sets_Has]? = some Tryd.f32 := Tryd.func32
abbrev f_gleanerref11_Sets_Add : Nat := 33
theorem fun_gleanerref11_Sets_Add : Pr.funcs[f_gleanerref11_Sets_Add]? = some Tryd.f33 := Tryd.func33
abbrev f_gleanerref11_Sets_region : Nat := 34
theorem fun_gleanerref11_Sets_region : Pr.funcs[f_gleanerref11_Sets_region]? = some Tryd.f34 := Tryd.func34
abbrev f_gleanerref11_Sets_find : Nat := 35
theorem fun_gleanerref11_Sets_find : Pr.funcs[f_gleanerref11_Sets_find]? = some Tryd.f35 := Tryd.func35
abbrev f_remset_Sets_Scrub_1 : Nat := 36
theorem fun_remset_Sets_Scrub_1 : Pr.funcs[f_remset_Sets_Scrub_1]? = some Tryd.f36 := Tryd.func36
abbrev f_bits_Set_Has : Nat := 37
theorem fun_bits_Set_Has : Pr.funcs[f_bits_Set_Has]? = some Tryd.f37 := Tryd.func37
abbrev f_bits_Set_check : Nat := 38
theorem fun_bits_Set_check : Pr.funcs[f_bits_Set_check]? = some Tryd.f38 := Tryd.func38
abbrev f_slices_Index___int_int_ : Nat := 39
theorem fun_slices_Index___int_int_ : Pr.funcs[f_slices_Index___int_int_]? = some Tryd.f39 := Tryd.func39
abbrev f_bits_New : Nat := 40
theorem fun_bits_New : Pr.funcs[f_bits_New]? = some Tryd.f40 := Tryd.func40
abbrev f_remset_Sets_refine_1 : Nat := 41
theorem fun_remset_Sets_refine_1 : Pr.funcs[f_remset_Sets_refine_1]? = some Tryd.f41 := Tryd.func41
abbrev f_bits_Set_Count : Nat := 42
theorem fun_bits_Set_Count : Pr.funcs[f_bits_Set_Count]? = some Tryd.f42 := Tryd.func42
abbrev f_slices_SortFunc___remset_pair_remset_pair_ : Nat := 43
theorem fun_slices_SortFunc___remset_pair_remset_pair_ : Pr.funcs[f_slices_SortFunc___remset_pair_remset_pair_]? = some Tryd.f43 := Tryd.func43
abbrev f_remset_Sets_refine_2 : Nat := 44
theorem fun_remset_Sets_refine_2 : Pr.funcs[f_remset_Sets_refine_2]? = some Tryd.f44 := Tryd.func44
abbrev f_slices_MaxFunc___remset_pair_remset_pair_ : Nat := 45
theorem fun_slices_MaxFunc___remset_pair_remset_pair_ : Pr.funcs[f_slices_MaxFunc___remset_pair_remset_pair_]? = some Tryd.f45 := Tryd.func45
abbrev f_remset_Sets_refine_3 : Nat := 46
theorem fun_remset_Sets_refine_3 : Pr.funcs[f_remset_Sets_refine_3]? = some Tryd.f46 := Tryd.func46
abbrev f_maps_DeleteFunc_map_remset_pair___int_remset_pair___int_ : Nat := 47
theorem fun_maps_DeleteFunc_map_remset_pair___int_remset_pair___int_ : Pr.funcs[f_maps_DeleteFunc_map_remset_pair___int_remset_pair___int_]? = some Tryd.f47 := Tryd.func47
abbrev f_remset_Sets_forget_1 : Nat := 48
theorem fun_remset_Sets_forget_1 : Pr.funcs[f_remset_Sets_forget_1]? = some Tryd.f48 := Tryd.func48
abbrev f_maps_DeleteFunc_map_remset_pair__bits_Set_remset_pair__bits_Set_ : Nat := 49
theorem fun_maps_DeleteFunc_map_remset_pair__bits_Set_remset_pair__bits_Set_ : Pr.funcs[f_maps_DeleteFunc_map_remset_pair__bits_Set_remset_pair__bits_Set_]? = some Tryd.f49 := Tryd.func49
abbrev f_remset_Sets_forget_2 : Nat := 50
theorem fun_remset_Sets_forget_2 : Pr.funcs[f_remset_Sets_forget_2]? = some Tryd.f50 := Tryd.func50
abbrev f_maps_DeleteFunc_map_remset_pair_bool_remset_pair_bool_ : Nat := 51
theorem fun_maps_DeleteFunc_map_remset_pair_bool_remset_pair_bool_ : Pr.funcs[f_maps_DeleteFunc_map_remset_pair_bool_remset_pair_bool_]? = some Tryd.f51 := Tryd.func51
abbrev f_remset_Sets_forget_3 : Nat := 52
theorem fun_remset_Sets_forget_3 : Pr.funcs[f_remset_Sets_forget_3]? = some Tryd.f52 := Tryd.func52
abbrev f_bits_Set_Next : Nat := 53
theorem fun_bits_Set_Next : Pr.funcs[f_bits_Set_Next]? = some Tryd.f53 := Tryd.func53
abbrev f_slices_pdqsortOrdered_int_ : Nat := 54
theorem fun_slices_pdqsortOrdered_int_ : Pr.funcs[f_slices_pdqsortOrdered_int_]? = some Tryd.f54 := Tryd.func54
abbrev f_math_bits_Len : Nat := 55
theorem fun_math_bits_Len : Pr.funcs[f_math_bits_Len]? = some Tryd.f55 := Tryd.func55
abbrev f_gleanerref11_in : Nat := 56
theorem fun_gleanerref11_in : Pr.funcs[f_gleanerref11_in]? = some Tryd.f56 := Tryd.func56
abbrev f_gleanerref11_Sets_coarsen : Nat := 57
theorem fun_gleanerref11_Sets_coarsen : Pr.funcs[f_gleanerref11_Sets_coarsen]? = some Tryd.f57 := Tryd.func57
abbrev f_math_bits_OnesCount64 : Nat := 58
theorem fun_math_bits_OnesCount64 : Pr.funcs[f_math_bits_OnesCount64]? = some Tryd.f58 := Tryd.func58
abbrev f_bits_mask : Nat := 59
theorem fun_bits_mask : Pr.funcs[f_bits_mask]? = some Tryd.f59 := Tryd.func59
abbrev f_slices_pdqsortCmpFunc_remset_pair_ : Nat := 60
theorem fun_slices_pdqsortCmpFunc_remset_pair_ : Pr.funcs[f_slices_pdqsortCmpFunc_remset_pair_]? = some Tryd.f60 := Tryd.func60
abbrev f_math_bits_TrailingZeros64 : Nat := 61
theorem fun_math_bits_TrailingZeros64 : Pr.funcs[f_math_bits_TrailingZeros64]? = some Tryd.f61 := Tryd.func61
abbrev f_slices_insertionSortOrdered_int_ : Nat := 62
theorem fun_slices_insertionSortOrdered_int_ : Pr.funcs[f_slices_insertionSortOrdered_int_]? = some Tryd.f62 := Tryd.func62
abbrev f_slices_heapSortOrdered_int_ : Nat := 63
theorem fun_slices_heapSortOrdered_int_ : Pr.funcs[f_slices_heapSortOrdered_int_]? = some Tryd.f63 := Tryd.func63
abbrev f_slices_breakPatternsOrdered_int_ : Nat := 64
theorem fun_slices_breakPatternsOrdered_int_ : Pr.funcs[f_slices_breakPatternsOrdered_int_]? = some Tryd.f64 := Tryd.func64
abbrev f_slices_choosePivotOrdered_int_ : Nat := 65
theorem fun_slices_choosePivotOrdered_int_ : Pr.funcs[f_slices_choosePivotOrdered_int_]? = some Tryd.f65 := Tryd.func65
abbrev f_slices_reverseRangeOrdered_int_ : Nat := 66
theorem fun_slices_reverseRangeOrdered_int_ : Pr.funcs[f_slices_reverseRangeOrdered_int_]? = some Tryd.f66 := Tryd.func66
abbrev f_slices_partialInsertionSortOrdered_int_ : Nat := 67
theorem fun_slices_partialInsertionSortOrdered_int_ : Pr.funcs[f_slices_partialInsertionSortOrdered_int_]? = some Tryd.f67 := Tryd.func67
abbrev f_cmp_Less_int_ : Nat := 68
theorem fun_cmp_Less_int_ : Pr.funcs[f_cmp_Less_int_]? = some Tryd.f68 := Tryd.func68
abbrev f_slices_partitionEqualOrdered_int_ : Nat := 69
theorem fun_slices_partitionEqualOrdered_int_ : Pr.funcs[f_slices_partitionEqualOrdered_int_]? = some Tryd.f69 := Tryd.func69
abbrev f_slices_partitionOrdered_int_ : Nat := 70
theorem fun_slices_partitionOrdered_int_ : Pr.funcs[f_slices_partitionOrdered_int_]? = some Tryd.f70 := Tryd.func70
abbrev f_math_bits_Len32 : Nat := 71
theorem fun_math_bits_Len32 : Pr.funcs[f_math_bits_Len32]? = some Tryd.f71 := Tryd.func71
abbrev f_math_bits_Len64 : Nat := 72
theorem fun_math_bits_Len64 : Pr.funcs[f_math_bits_Len64]? = some Tryd.f72 := Tryd.func72
abbrev f_slices_insertionSortCmpFunc_remset_pair_ : Nat := 73
theorem fun_slices_insertionSortCmpFunc_remset_pair_ : Pr.funcs[f_slices_insertionSortCmpFunc_remset_pair_]? = some Tryd.f73 := Tryd.func73
abbrev f_slices_heapSortCmpFunc_remset_pair_ : Nat := 74
theorem fun_slices_heapSortCmpFunc_remset_pair_ : Pr.funcs[f_slices_heapSortCmpFunc_remset_pair_]? = some Tryd.f74 := Tryd.func74
abbrev f_slices_breakPatternsCmpFunc_remset_pair_ : Nat := 75
theorem fun_slices_breakPatternsCmpFunc_remset_pair_ : Pr.funcs[f_slices_breakPatternsCmpFunc_remset_pair_]? = some Tryd.f75 := Tryd.func75
abbrev f_slices_choosePivotCmpFunc_remset_pair_ : Nat := 76
theorem fun_slices_choosePivotCmpFunc_remset_pair_ : Pr.funcs[f_slices_choosePivotCmpFunc_remset_pair_]? = some Tryd.f76 := Tryd.func76
abbrev f_slices_reverseRangeCmpFunc_remset_pair_ : Nat := 77
theorem fun_slices_reverseRangeCmpFunc_remset_pair_ : Pr.funcs[f_slices_reverseRangeCmpFunc_remset_pair_]? = some Tryd.f77 := Tryd.func77
abbrev f_slices_partialInsertionSortCmpFunc_remset_pair_ : Nat := 78
theorem fun_slices_partialInsertionSortCmpFunc_remset_pair_ : Pr.funcs[f_slices_partialInsertionSortCmpFunc_remset_pair_]? = some Tryd.f78 := Tryd.func78
abbrev f_slices_partitionEqualCmpFunc_remset_pair_ : Nat := 79
theorem fun_slices_partitionEqualCmpFunc_remset_pair_ : Pr.funcs[f_slices_partitionEqualCmpFunc_remset_pair_]? = some Tryd.f79 := Tryd.func79
abbrev f_slices_partitionCmpFunc_remset_pair_ : Nat := 80
theorem fun_slices_partitionCmpFunc_remset_pair_ : Pr.funcs[f_slices_partitionCmpFunc_remset_pair_]? = some Tryd.f80 := Tryd.func80
abbrev f_slices_siftDownOrdered_int_ : Nat := 81
theorem fun_slices_siftDownOrdered_int_ : Pr.funcs[f_slices_siftDownOrdered_int_]? = some Tryd.f81 := Tryd.func81
abbrev f_slices_nextPowerOfTwo : Nat := 82
theorem fun_slices_nextPowerOfTwo : Pr.funcs[f_slices_nextPowerOfTwo]? = some Tryd.f82 := Tryd.func82
abbrev f_slices_xorshift_Next : Nat := 83
theorem fun_slices_xorshift_Next : Pr.funcs[f_slices_xorshift_Next]? = some Tryd.f83 := Tryd.func83
abbrev f_slices_medianAdjacentOrdered_int_ : Nat := 84
theorem fun_slices_medianAdjacentOrdered_int_ : Pr.funcs[f_slices_medianAdjacentOrdered_int_]? = some Tryd.f84 := Tryd.func84
abbrev f_slices_medianOrdered_int_ : Nat := 85
theorem fun_slices_medianOrdered_int_ : Pr.funcs[f_slices_medianOrdered_int_]? = some Tryd.f85 := Tryd.func85
abbrev f_cmp_isNaN_int_ : Nat := 86
theorem fun_cmp_isNaN_int_ : Pr.funcs[f_cmp_isNaN_int_]? = some Tryd.f86 := Tryd.func86
abbrev f_slices_siftDownCmpFunc_remset_pair_ : Nat := 87
theorem fun_slices_siftDownCmpFunc_remset_pair_ : Pr.funcs[f_slices_siftDownCmpFunc_remset_pair_]? = some Tryd.f87 := Tryd.func87
abbrev f_slices_medianAdjacentCmpFunc_remset_pair_ : Nat := 88
theorem fun_slices_medianAdjacentCmpFunc_remset_pair_ : Pr.funcs[f_slices_medianAdjacentCmpFunc_remset_pair_]? = some Tryd.f88 := Tryd.func88
abbrev f_slices_medianCmpFunc_remset_pair_ : Nat := 89
theorem fun_slices_medianCmpFunc_remset_pair_ : Pr.funcs[f_slices_medianCmpFunc_remset_pair_]? = some Tryd.f89 := Tryd.func89
abbrev f_slices_order2Ordered_int_ : Nat := 90
theorem fun_slices_order2Ordered_int_ : Pr.funcs[f_slices_order2Ordered_int_]? = some Tryd.f90 := Tryd.func90
abbrev f_slices_order2CmpFunc_remset_pair_ : Nat := 91
theorem fun_slices_order2CmpFunc_remset_pair_ : Pr.funcs[f_slices_order2CmpFunc_remset_pair_]? = some Tryd.f91 := Tryd.func91
abbrev f_gosem_cut_vars : Nat := 115
theorem fun_gosem_cut_vars : Pr.funcs[f_gosem_cut_vars]? = some Tryd.f115 := Tryd.func115
end Go.Proofs.YtfokdnmidfmddaaDoor
