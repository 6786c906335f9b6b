/- The seat's own names and numbers, out of the translation's listing, by a small program. -/
import Derived.Test.YtilhoimokegpjaaProg
import Derived.Test.YtilhoimokegpjaaVcG
import Derived.KernelRfl
namespace Go.Proofs.Ytilhoimokegpjaa
open Go.Vc
noncomputable abbrev Pr : Program := Try.prog
noncomputable def T : Tab := Tab.mk [
  (3, ⟨.int .i64, 1, 8, [.int .i64 0]⟩),
  (4, ⟨.bool, 1, 1, [.bool false]⟩),
  (25, ⟨.int .i64, 1, 8, [.int .i64 0]⟩),
  (29, ⟨.struct [(3, 0), (3, 1), (3, 2), (3, 3), (3, 4), (3, 5)], 6, 48, [.int .i64 0, .int .i64 0, .int .i64 0, .int .i64 0, .int .i64 0, .int .i64 0]⟩),
  (54, ⟨.int .i64, 1, 8, [.int .i64 0]⟩),
  (46, ⟨.struct [(3, 0), (3, 1), (3, 2), (3, 3), (3, 4), (3, 5)], 6, 48, [.int .i64 0, .int .i64 0, .int .i64 0, .int .i64 0, .int .i64 0, .int .i64 0]⟩),
  (60, ⟨.ptr 94, 1, 8, [.pointer none]⟩),
  (40, ⟨.struct [(3, 0), (3, 1), (3, 2), (3, 3), (3, 4), (3, 5), (3, 6), (3, 7), (3, 8), (3, 9), (3, 10), (3, 11), (3, 12), (3, 13)], 14, 112, List.replicate 14 (.int .i64 0)⟩),
  (101, ⟨.slice 105, 1, 24, [.slice none 0 0]⟩),
  (24, ⟨.ptr 78, 1, 8, [.pointer none]⟩),
  (69, ⟨.ptr 103, 1, 8, [.pointer none]⟩),
  (84, ⟨.int .u64, 1, 8, [.int .u64 0]⟩),
  (31, ⟨.slice 3, 1, 24, [.slice none 0 0]⟩),
  (103, ⟨.struct [(3, 0), (101, 1)], 2, 32, [.int .i64 0, .slice none 0 0]⟩),
  (113, ⟨.struct [(3, 0), (3, 1), (3, 2)], 3, 24, [.int .i64 0, .int .i64 0, .int .i64 0]⟩),
  (98, ⟨.ptr 97, 1, 8, [.pointer none]⟩),
  (56, ⟨.int .u64, 1, 8, [.int .u64 0]⟩),
  (97, ⟨.struct [(54, 0), (21, 1), (21, 2)], 3, 16, [.int .i64 0, .int .i32 0, .int .i32 0]⟩),
  (74, ⟨.struct [(3, 0), (3, 1), (3, 2), (54, 3)], 4, 32, [.int .i64 0, .int .i64 0, .int .i64 0, .int .i64 0]⟩),
  (92, ⟨.slice 97, 1, 24, [.slice none 0 0]⟩),
  (55, ⟨.int .u64, 1, 8, [.int .u64 0]⟩),
  (105, ⟨.struct [(54, 0), (3, 1), (3, 2)], 3, 24, [.int .i64 0, .int .i64 0, .int .i64 0]⟩),
  (21, ⟨.int .i32, 1, 4, [.int .i32 0]⟩),
  (115, ⟨.ptr 123, 1, 8, [.pointer none]⟩),
  (87, ⟨.ptr 119, 1, 8, [.pointer none]⟩),
  (94, ⟨.struct [(3, 0), (92, 1)], 2, 32, [.int .i64 0, .slice none 0 0]⟩),
  (76, ⟨.slice 80, 1, 24, [.slice none 0 0]⟩),
  (80, ⟨.int .u32, 1, 4, [.int .u32 0]⟩),
  (78, ⟨.struct [(3, 0), (3, 1), (76, 2)], 3, 40, [.int .i64 0, .int .i64 0, .slice none 0 0]⟩),
  (121, ⟨.slice 55, 1, 24, [.slice none 0 0]⟩),
  (123, ⟨.struct [(3, 0), (121, 1)], 2, 32, [.int .i64 0, .slice none 0 0]⟩),
  (5, ⟨.int .u8, 1, 1, [.int .u8 0]⟩),
  (22, ⟨.slice 5, 1, 24, [.slice none 0 0]⟩),
  (37, ⟨.struct [(3, 0), (3, 1), (3, 2)], 3, 24, [.int .i64 0, .int .i64 0, .int .i64 0]⟩),
  (119, ⟨.struct [(115, 0)], 1, 8, [.pointer none]⟩),
  (124, ⟨.ptr 55, 1, 8, [.pointer none]⟩),
  (64, ⟨.arr 256 4, 256, 256, List.replicate 256 (.bool false)⟩),
  (68, ⟨.slice 74, 1, 24, [.slice none 0 0]⟩),
  (81, ⟨.func, 1, 8, [.nilFunc]⟩),
  (114, ⟨.slice 113, 1, 24, [.slice none 0 0]⟩)]
  [3, 4, 5, 6, 7, 8, 9, 10, 11, 12, 13, 14, 15, 16, 17, 18, 19, 20, 21, 22, 23, 24, 25, 26, 27, 28, 29, 30, 31, 32, 33, 34, 35, 36, 37, 38, 39, 40, 41, 42, 43, 44, 45, 46, 47, 48, 49, 50, 51, 52, 53, 54, 55, 56, 57, 58, 59, 60, 61, 62, 63, 64, 65, 66, 67, 68, 69, 70, 71, 72, 73, 74, 75, 76, 77, 78, 79, 80, 81]
theorem T_ok : T.Ok Pr := tab_of (by kernel_rfl)
theorem mixed : Pr.follows .mixedOrders = true := by kernel_rfl
abbrev t_int : Nat := 3
abbrev t_bool : Nat := 4
abbrev t_api_Errno : Nat := 25
abbrev t_geom_Geom : Nat := 29
abbrev t_api_RegionState : Nat := 54
abbrev t_gleanerref02_Geom : Nat := 46
abbrev t_p_region_Table : Nat := 60
abbrev t_api_Config : Nat := 40
abbrev t_s_gleanerref07_One : Nat := 101
abbrev t_p_offs_Table : Nat := 24
abbrev t_p_gleanerref07_Table : Nat := 69
abbrev t_uint : Nat := 84
abbrev t_s_int : Nat := 31
abbrev t_gleanerref07_Table : Nat := 103
abbrev t_geom_bound : Nat := 113
abbrev t_p_region_one : Nat := 98
abbrev t_api_Ref : Nat := 56
abbrev t_region_one : Nat := 97
abbrev t_gleanerlaw07_Act : Nat := 74
abbrev t_s_region_one : Nat := 92
abbrev t_uint64 : Nat := 55
abbrev t_gleanerref07_One : Nat := 105
abbrev t_int32 : Nat := 21
abbrev t_p_bits_Set : Nat := 115
abbrev t_p_cards_Table : Nat := 87
abbrev t_region_Table : Nat := 94
abbrev t_s_uint32 : Nat := 76
abbrev t_uint32 : Nat := 80
abbrev t_offs_Table : Nat := 78
abbrev t_s_uint64 : Nat := 121
abbrev t_bits_Set : Nat := 123
abbrev t_uint8 : Nat := 5
abbrev t_s_uint8 : Nat := 22
abbrev t_gleanerlaw06_Act : Nat := 37
abbrev t_cards_Table : Nat := 119
abbrev t_p_uint64 : Nat := 124
abbrev t__256_bool : Nat := 64
abbrev t_s_gleanerlaw07_Act : Nat := 68
abbrev t_s_geom_bound : Nat := 114
abbrev f_gleanerlaw06_OffsCovers : Nat := 3
theorem fun_gleanerlaw06_OffsCovers : Pr.funcs[f_gleanerlaw06_OffsCovers]? = some Try.f3 := Try.func3
abbrev f_gleanerlaw06_OffsNil : Nat := 4
theorem fun_gleanerlaw06_OffsNil : Pr.funcs[f_gleanerlaw06_OffsNil]? = some Try.f4 := Try.func4
abbrev f_gleanerlaw02_GeomSpans : Nat := 5
theorem fun_gleanerlaw02_GeomSpans : Pr.funcs[f_gleanerlaw02_GeomSpans]? = some Try.f5 := Try.func5
abbrev f_gleanerlaw02_GeomAll : Nat := 6
theorem fun_gleanerlaw02_GeomAll : Pr.funcs[f_gleanerlaw02_GeomAll]? = some Try.f6 := Try.func6
abbrev f_gleanerlaw02_GeomPlaces : Nat := 7
theorem fun_gleanerlaw02_GeomPlaces : Pr.funcs[f_gleanerlaw02_GeomPlaces]? = some Try.f7 := Try.func7
abbrev f_gleanerlaw09_CardsNotes : Nat := 8
theorem fun_gleanerlaw09_CardsNotes : Pr.funcs[f_gleanerlaw09_CardsNotes]? = some Try.f8 := Try.func8
abbrev f_gleanerlaw07_RegionApart : Nat := 9
theorem fun_gleanerlaw07_RegionApart : Pr.funcs[f_gleanerlaw07_RegionApart]? = some Try.f9 := Try.func9
abbrev f_gleanerlaw07_RegionStates : Nat := 10
theorem fun_gleanerlaw07_RegionStates : Pr.funcs[f_gleanerlaw07_RegionStates]? = some Try.f10 := Try.func10
abbrev f_gleanerlaw06_awake : Nat := 11
theorem fun_gleanerlaw06_awake : Pr.funcs[f_gleanerlaw06_awake]? = some Try.f11 := Try.func11
abbrev f_offs_New : Nat := 12
theorem fun_offs_New : Pr.funcs[f_offs_New]? = some Try.f12 := Try.func12
abbrev f_gleanerlaw06_small : Nat := 13
theorem fun_gleanerlaw06_small : Pr.funcs[f_gleanerlaw06_small]? = some Try.f13 := Try.func13
abbrev f_offs_Table_Put : Nat := 14
theorem fun_offs_Table_Put : Pr.funcs[f_offs_Table_Put]? = some Try.f14 := Try.func14
abbrev f_offs_Table_First : Nat := 15
theorem fun_offs_Table_First : Pr.funcs[f_offs_Table_First]? = some Try.f15 := Try.func15
abbrev f_offs_Table_Drop : Nat := 16
theorem fun_offs_Table_Drop : Pr.funcs[f_offs_Table_Drop]? = some Try.f16 := Try.func16
abbrev f_gleanerlaw02_awake : Nat := 17
theorem fun_gleanerlaw02_awake : Pr.funcs[f_gleanerlaw02_awake]? = some Try.f17 := Try.func17
abbrev f_geom_New : Nat := 18
theorem fun_geom_New : Pr.funcs[f_geom_New]? = some Try.f18 := Try.func18
abbrev f_geom_Geom_Span : Nat := 19
theorem fun_geom_Geom_Span : Pr.funcs[f_geom_Geom_Span]? = some Try.f19 := Try.func19
abbrev f_geom_Geom_Big : Nat := 20
theorem fun_geom_Geom_Big : Pr.funcs[f_geom_Geom_Big]? = some Try.f20 := Try.func20
abbrev f_gleanerref02_New : Nat := 21
theorem fun_gleanerref02_New : Pr.funcs[f_gleanerref02_New]? = some Try.f21 := Try.func21
abbrev f_geom_Geom_Base : Nat := 22
theorem fun_geom_Geom_Base : Pr.funcs[f_geom_Geom_Base]? = some Try.f22 := Try.func22
abbrev f_gleanerref02_Geom_Base : Nat := 23
theorem fun_gleanerref02_Geom_Base : Pr.funcs[f_gleanerref02_Geom_Base]? = some Try.f23 := Try.func23
abbrev f_geom_Geom_First : Nat := 24
theorem fun_geom_Geom_First : Pr.funcs[f_geom_Geom_First]? = some Try.f24 := Try.func24
abbrev f_gleanerref02_Geom_First : Nat := 25
theorem fun_gleanerref02_Geom_First : Pr.funcs[f_gleanerref02_Geom_First]? = some Try.f25 := Try.func25
abbrev f_geom_Geom_Region : Nat := 26
theorem fun_geom_Geom_Region : Pr.funcs[f_geom_Geom_Region]? = some Try.f26 := Try.func26
abbrev f_gleanerref02_Geom_Region : Nat := 27
theorem fun_gleanerref02_Geom_Region : Pr.funcs[f_gleanerref02_Geom_Region]? = some Try.f27 := Try.func27
abbrev f_geom_Geom_Card : Nat := 28
theorem fun_geom_Geom_Card : Pr.funcs[f_geom_Geom_Card]? = some Try.f28 := Try.func28
abbrev f_gleanerref02_Geom_Card : Nat := 29
theorem fun_gleanerref02_Geom_Card : Pr.funcs[f_gleanerref02_Geom_Card]? = some Try.f29 := Try.func29
abbrev f_geom_Geom_Cross : Nat := 30
theorem fun_geom_Geom_Cross : Pr.funcs[f_geom_Geom_Cross]? = some Try.f30 := Try.func30
abbrev f_gleanerref02_Geom_Cross : Nat := 31
theorem fun_gleanerref02_Geom_Cross : Pr.funcs[f_gleanerref02_Geom_Cross]? = some Try.f31 := Try.func31
abbrev f_gleanerref02_Geom_Big : Nat := 32
theorem fun_gleanerref02_Geom_Big : Pr.funcs[f_gleanerref02_Geom_Big]? = some Try.f32 := Try.func32
abbrev f_gleanerref02_Geom_Span : Nat := 33
theorem fun_gleanerref02_Geom_Span : Pr.funcs[f_gleanerref02_Geom_Span]? = some Try.f33 := Try.func33
abbrev f_gleanerlaw09_awake : Nat := 34
theorem fun_gleanerlaw09_awake : Pr.funcs[f_gleanerlaw09_awake]? = some Try.f34 := Try.func34
abbrev f_cards_Note : Nat := 35
theorem fun_cards_Note : Pr.funcs[f_cards_Note]? = some Try.f35 := Try.func35
abbrev f_gleanerref09_Note : Nat := 36
theorem fun_gleanerref09_Note : Pr.funcs[f_gleanerref09_Note]? = some Try.f36 := Try.func36
abbrev f_gleanerlaw07_awake : Nat := 37
theorem fun_gleanerlaw07_awake : Pr.funcs[f_gleanerlaw07_awake]? = some Try.f37 := Try.func37
abbrev f_region_New : Nat := 38
theorem fun_region_New : Pr.funcs[f_region_New]? = some Try.f38 := Try.func38
abbrev f_gleanerlaw07_small : Nat := 39
theorem fun_gleanerlaw07_small : Pr.funcs[f_gleanerlaw07_small]? = some Try.f39 := Try.func39
abbrev f_region_Table_Claim : Nat := 40
theorem fun_region_Table_Claim : Pr.funcs[f_region_Table_Claim]? = some Try.f40 := Try.func40
abbrev f_region_Table_Bump : Nat := 41
theorem fun_region_Table_Bump : Pr.funcs[f_region_Table_Bump]? = some Try.f41 := Try.func41
abbrev f_region_Table_Top : Nat := 42
theorem fun_region_Table_Top : Pr.funcs[f_region_Table_Top]? = some Try.f42 := Try.func42
abbrev f_region_Table_State : Nat := 43
theorem fun_region_Table_State : Pr.funcs[f_region_Table_State]? = some Try.f43 := Try.func43
abbrev f_region_Table_List : Nat := 44
theorem fun_region_Table_List : Pr.funcs[f_region_Table_List]? = some Try.f44 := Try.func44
abbrev f_gleanerref07_New : Nat := 45
theorem fun_gleanerref07_New : Pr.funcs[f_gleanerref07_New]? = some Try.f45 := Try.func45
abbrev f_gleanerlaw07_step : Nat := 46
theorem fun_gleanerlaw07_step : Pr.funcs[f_gleanerlaw07_step]? = some Try.f46 := Try.func46
abbrev f_offs_Table_row : Nat := 47
theorem fun_offs_Table_row : Pr.funcs[f_offs_Table_row]? = some Try.f47 := Try.func47
abbrev f_offs_Table_cards : Nat := 48
theorem fun_offs_Table_cards : Pr.funcs[f_offs_Table_cards]? = some Try.f48 := Try.func48
abbrev f_offs_Table_Put_1 : Nat := 49
theorem fun_offs_Table_Put_1 : Pr.funcs[f_offs_Table_Put_1]? = some Try.f49 := Try.func49
abbrev f_offs_Table_Drop_1 : Nat := 50
theorem fun_offs_Table_Drop_1 : Pr.funcs[f_offs_Table_Drop_1]? = some Try.f50 := Try.func50
abbrev f_gleanerlaw02_small : Nat := 51
theorem fun_gleanerlaw02_small : Pr.funcs[f_gleanerlaw02_small]? = some Try.f51 := Try.func51
abbrev f_geom_may : Nat := 52
theorem fun_geom_may : Pr.funcs[f_geom_may]? = some Try.f52 := Try.func52
abbrev f_geom_log : Nat := 53
theorem fun_geom_log : Pr.funcs[f_geom_log]? = some Try.f53 := Try.func53
abbrev f_gleanerref02_May : Nat := 54
theorem fun_gleanerref02_May : Pr.funcs[f_gleanerref02_May]? = some Try.f54 := Try.func54
abbrev f_gleanerref02_power : Nat := 55
theorem fun_gleanerref02_power : Pr.funcs[f_gleanerref02_power]? = some Try.f55 := Try.func55
abbrev f_gleanerref02_in : Nat := 56
theorem fun_gleanerref02_in : Pr.funcs[f_gleanerref02_in]? = some Try.f56 := Try.func56
abbrev f_cards_New : Nat := 57
theorem fun_cards_New : Pr.funcs[f_cards_New]? = some Try.f57 := Try.func57
abbrev f_gleanerlaw09_small : Nat := 58
theorem fun_gleanerlaw09_small : Pr.funcs[f_gleanerlaw09_small]? = some Try.f58 := Try.func58
abbrev f_cards_Table_Dirty : Nat := 59
theorem fun_cards_Table_Dirty : Pr.funcs[f_cards_Table_Dirty]? = some Try.f59 := Try.func59
abbrev f_cards_Table_Is : Nat := 60
theorem fun_cards_Table_Is : Pr.funcs[f_cards_Table_Is]? = some Try.f60 := Try.func60
abbrev f_region_Table_Run : Nat := 61
theorem fun_region_Table_Run : Pr.funcs[f_region_Table_Run]? = some Try.f61 := Try.func61
abbrev f_region_plain : Nat := 62
theorem fun_region_plain : Pr.funcs[f_region_plain]? = some Try.f62 := Try.func62
abbrev f_region_Table_at : Nat := 63
theorem fun_region_Table_at : Pr.funcs[f_region_Table_at]? = some Try.f63 := Try.func63
abbrev f_gleanerref07_Table_Claim : Nat := 64
theorem fun_gleanerref07_Table_Claim : Pr.funcs[f_gleanerref07_Table_Claim]? = some Try.f64 := Try.func64
abbrev f_gleanerref07_Table_Run : Nat := 65
theorem fun_gleanerref07_Table_Run : Pr.funcs[f_gleanerref07_Table_Run]? = some Try.f65 := Try.func65
abbrev f_gleanerref07_Table_Bump : Nat := 66
theorem fun_gleanerref07_Table_Bump : Pr.funcs[f_gleanerref07_Table_Bump]? = some Try.f66 := Try.func66
abbrev f_region_Table_SetTop : Nat := 67
theorem fun_region_Table_SetTop : Pr.funcs[f_region_Table_SetTop]? = some Try.f67 := Try.func67
abbrev f_gleanerref07_Table_SetTop : Nat := 68
theorem fun_gleanerref07_Table_SetTop : Pr.funcs[f_gleanerref07_Table_SetTop]? = some Try.f68 := Try.func68
abbrev f_region_Table_Mark : Nat := 69
theorem fun_region_Table_Mark : Pr.funcs[f_region_Table_Mark]? = some Try.f69 := Try.func69
abbrev f_gleanerref07_Table_Mark : Nat := 70
theorem fun_gleanerref07_Table_Mark : Pr.funcs[f_gleanerref07_Table_Mark]? = some Try.f70 := Try.func70
abbrev f_region_Table_Turn : Nat := 71
theorem fun_region_Table_Turn : Pr.funcs[f_region_Table_Turn]? = some Try.f71 := Try.func71
abbrev f_gleanerref07_Table_Turn : Nat := 72
theorem fun_gleanerref07_Table_Turn : Pr.funcs[f_gleanerref07_Table_Turn]? = some Try.f72 := Try.func72
abbrev f_region_Table_Release : Nat := 73
theorem fun_region_Table_Release : Pr.funcs[f_region_Table_Release]? = some Try.f73 := Try.func73
abbrev f_gleanerref07_Table_Release : Nat := 74
theorem fun_gleanerref07_Table_Release : Pr.funcs[f_gleanerref07_Table_Release]? = some Try.f74 := Try.func74
abbrev f_bits_New : Nat := 75
theorem fun_bits_New : Pr.funcs[f_bits_New]? = some Try.f75 := Try.func75
abbrev f_bits_Set_Put : Nat := 76
theorem fun_bits_Set_Put : Pr.funcs[f_bits_Set_Put]? = some Try.f76 := Try.func76
abbrev f_bits_Set_Has : Nat := 77
theorem fun_bits_Set_Has : Pr.funcs[f_bits_Set_Has]? = some Try.f77 := Try.func77
abbrev f_region_Table_hold : Nat := 78
theorem fun_region_Table_hold : Pr.funcs[f_region_Table_hold]? = some Try.f78 := Try.func78
abbrev f_gleanerref07_plain : Nat := 79
theorem fun_gleanerref07_plain : Pr.funcs[f_gleanerref07_plain]? = some Try.f79 := Try.func79
abbrev f_gleanerref07_Table_there : Nat := 80
theorem fun_gleanerref07_Table_there : Pr.funcs[f_gleanerref07_Table_there]? = some Try.f80 := Try.func80
abbrev f_bits_Set_check : Nat := 81
theorem fun_bits_Set_check : Pr.funcs[f_bits_Set_check]? = some Try.f81 := Try.func81
end Go.Proofs.Ytilhoimokegpjaa
