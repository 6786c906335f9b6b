/- The seat's own names and numbers, out of the translation's listing, by a small program. -/
import Derived.Test.YtdhbpklmkibmbaaProg
import Derived.Test.YtdhbpklmkibmbaaVcG
import Derived.KernelRfl
namespace Go.Proofs.Ytdhbpklmkibmbaa
open Go.Vc
noncomputable abbrev Pr : Program := Try.prog
noncomputable def T : Tab := Tab.mk [
  (3, ⟨.int .i64, 1, 8, [.int .i64 0]⟩),
  (4, ⟨.bool, 1, 1, [.bool false]⟩),
  (27, ⟨.int .i64, 1, 8, [.int .i64 0]⟩),
  (30, ⟨.ptr 46, 1, 8, [.pointer none]⟩),
  (79, ⟨.int .u64, 1, 8, [.int .u64 0]⟩),
  (71, ⟨.ptr 153, 1, 8, [.pointer none]⟩),
  (76, ⟨.int .u64, 1, 8, [.int .u64 0]⟩),
  (48, ⟨.slice 3, 1, 24, [.slice none 0 0]⟩),
  (74, ⟨.slice 79, 1, 24, [.slice none 0 0]⟩),
  (26, ⟨.struct [(3, 0), (3, 1), (3, 2), (3, 3), (3, 4), (3, 5)], 6, 48, [.int .i64 0, .int .i64 0, .int .i64 0, .int .i64 0, .int .i64 0, .int .i64 0]⟩),
  (134, ⟨.struct [(132, 0), (3, 1), (3, 2), (3, 3), (3, 4)], 5, 40, [.int .i64 0, .int .i64 0, .int .i64 0, .int .i64 0, .int .i64 0]⟩),
  (78, ⟨.struct [(75, 0), (3, 1), (3, 2), (3, 3), (76, 4)], 5, 40, [.int .i64 0, .int .i64 0, .int .i64 0, .int .i64 0, .int .u64 0]⟩),
  (75, ⟨.int .i64, 1, 8, [.int .i64 0]⟩),
  (33, ⟨.slice 76, 1, 24, [.slice none 0 0]⟩),
  (146, ⟨.struct [(144, 0), (4, 5), (4, 6), (4, 7), (48, 8)], 9, 72, [.int .i64 0, .int .i64 0, .int .i64 0, .int .u64 0, .bool false, .bool false, .bool false, .bool false, .slice none 0 0]⟩),
  (23, ⟨.struct [(3, 0), (3, 1), (3, 2), (3, 3), (3, 4), (3, 5), (3, 6), (3, 7), (3, 8), (3, 9), (3, 10), (3, 11), (3, 12), (3, 13)], 14, 112, List.replicate 14 (.int .i64 0)⟩),
  (46, ⟨.struct [(23, 0), (26, 14), (36, 20), (37, 21), (38, 22), (39, 23), (40, 24), (41, 25), (42, 26), (43, 27), (44, 28)], 29, 264, [.int .i64 0, .int .i64 0, .int .i64 0, .int .i64 0, .int .i64 0, .int .i64 0, .int .i64 0, .int .i64 0, .int .i64 0, .int .i64 0, .int .i64 0, .int .i64 0, .int .i64 0, .int .i64 0, .int .i64 0, .int .i64 0, .int .i64 0, .int .i64 0, .int .i64 0, .int .i64 0, .pointer none, .pointer none, .pointer none, .pointer none, .pointer none, .pointer none, .pointer none, .slice none 0 0, .slice none 0 0]⟩),
  (52, ⟨.ptr 126, 1, 8, [.pointer none]⟩),
  (153, ⟨.struct [(30, 0), (66, 1), (3, 2), (3, 3), (151, 4), (78, 5), (3, 10)], 11, 88, [.pointer none, .pointer none, .int .i64 0, .int .i64 0, .int .i64 0, .int .i64 0, .int .i64 0, .int .i64 0, .int .i64 0, .int .u64 0, .int .i64 0]⟩),
  (36, ⟨.ptr 117, 1, 8, [.pointer none]⟩),
  (59, ⟨.ptr 70, 1, 8, [.pointer none]⟩),
  (37, ⟨.ptr 122, 1, 8, [.pointer none]⟩),
  (90, ⟨.int .u64, 1, 8, [.int .u64 0]⟩),
  (50, ⟨.int .i64, 1, 8, [.int .i64 0]⟩),
  (144, ⟨.struct [(3, 0), (3, 1), (27, 2), (76, 3), (4, 4)], 5, 40, [.int .i64 0, .int .i64 0, .int .i64 0, .int .u64 0, .bool false]⟩),
  (70, ⟨.struct [(30, 0), (66, 1), (67, 2), (62, 3), (48, 4), (68, 5), (48, 6), (3, 7), (4, 8)], 9, 136, [.pointer none, .pointer none, .slice none 0 0, .slice none 0 0, .slice none 0 0, .pointer none, .slice none 0 0, .int .i64 0, .bool false]⟩),
  (43, ⟨.slice 52, 1, 24, [.slice none 0 0]⟩),
  (151, ⟨.int .i64, 1, 8, [.int .i64 0]⟩),
  (132, ⟨.int .i64, 1, 8, [.int .i64 0]⟩),
  (198, ⟨.ptr 221, 1, 8, [.pointer none]⟩),
  (38, ⟨.ptr 178, 1, 8, [.pointer none]⟩),
  (68, ⟨.ptr 159, 1, 8, [.pointer none]⟩),
  (62, ⟨.slice 58, 1, 24, [.slice none 0 0]⟩),
  (174, ⟨.struct [(3, 0), (3, 1), (3, 2)], 3, 24, [.int .i64 0, .int .i64 0, .int .i64 0]⟩),
  (115, ⟨.struct [(3, 0), (74, 1), (33, 2)], 3, 56, [.int .i64 0, .slice none 0 0, .slice none 0 0]⟩),
  (107, ⟨.map 79 115, 1, 8, [.map none]⟩),
  (120, ⟨.slice 124, 1, 24, [.slice none 0 0]⟩),
  (66, ⟨.ptr 65, 1, 8, [.pointer none]⟩),
  (58, ⟨.slice 78, 1, 24, [.slice none 0 0]⟩),
  (42, ⟨.ptr 119, 1, 8, [.pointer none]⟩),
  (127, ⟨.ptr 54, 1, 8, [.pointer none]⟩),
  (54, ⟨.struct [(3, 0), (3, 1)], 2, 16, [.int .i64 0, .int .i64 0]⟩),
  (122, ⟨.struct [(3, 0), (120, 1)], 2, 32, [.int .i64 0, .slice none 0 0]⟩),
  (21, ⟨.int .i32, 1, 4, [.int .i32 0]⟩),
  (40, ⟨.ptr 183, 1, 8, [.pointer none]⟩),
  (124, ⟨.struct [(50, 0), (21, 1), (21, 2)], 3, 16, [.int .i64 0, .int .i32 0, .int .i32 0]⟩),
  (167, ⟨.ptr 124, 1, 8, [.pointer none]⟩),
  (159, ⟨.struct [(3, 0), (156, 1), (157, 2), (48, 3)], 4, 80, [.int .i64 0, .slice none 0 0, .slice none 0 0, .slice none 0 0]⟩),
  (226, ⟨.ptr 224, 1, 8, [.pointer none]⟩),
  (126, ⟨.struct [(3, 0), (74, 1)], 2, 32, [.int .i64 0, .slice none 0 0]⟩),
  (157, ⟨.slice 198, 1, 24, [.slice none 0 0]⟩),
  (44, ⟨.slice 54, 1, 24, [.slice none 0 0]⟩),
  (63, ⟨.slice 74, 1, 24, [.slice none 0 0]⟩),
  (67, ⟨.slice 71, 1, 24, [.slice none 0 0]⟩),
  (221, ⟨.struct [(3, 0), (74, 1)], 2, 32, [.int .i64 0, .slice none 0 0]⟩),
  (65, ⟨.struct [(4, 0), (63, 1)], 2, 32, [.bool false, .slice none 0 0]⟩),
  (207, ⟨.ptr 76, 1, 8, [.pointer none]⟩),
  (181, ⟨.slice 48, 1, 24, [.slice none 0 0]⟩),
  (39, ⟨.ptr 180, 1, 8, [.pointer none]⟩),
  (110, ⟨.map 79 76, 1, 8, [.map none]⟩),
  (117, ⟨.struct [(33, 0), (3, 1)], 2, 32, [.slice none 0 0, .int .i64 0]⟩),
  (156, ⟨.slice 224, 1, 24, [.slice none 0 0]⟩),
  (178, ⟨.struct [(3, 0), (3, 1), (176, 2)], 3, 40, [.int .i64 0, .int .i64 0, .slice none 0 0]⟩),
  (183, ⟨.struct [(3, 0), (48, 1), (181, 2)], 3, 56, [.int .i64 0, .slice none 0 0, .slice none 0 0]⟩),
  (224, ⟨.struct [(74, 0), (33, 1)], 2, 48, [.slice none 0 0, .slice none 0 0]⟩),
  (176, ⟨.slice 235, 1, 24, [.slice none 0 0]⟩),
  (204, ⟨.ptr 79, 1, 8, [.pointer none]⟩),
  (41, ⟨.ptr 188, 1, 8, [.pointer none]⟩),
  (119, ⟨.struct [(3, 0), (33, 1)], 2, 32, [.int .i64 0, .slice none 0 0]⟩),
  (235, ⟨.int .u32, 1, 4, [.int .u32 0]⟩),
  (112, ⟨.func, 1, 8, [.nilFunc]⟩),
  (180, ⟨.struct [(42, 0)], 1, 8, [.pointer none]⟩),
  (193, ⟨.func, 1, 8, [.nilFunc]⟩),
  (203, ⟨.ptr 144, 1, 8, [.pointer none]⟩),
  (175, ⟨.slice 174, 1, 24, [.slice none 0 0]⟩),
  (188, ⟨.struct [(3, 0), (3, 1), (184, 2), (185, 3), (186, 4)], 5, 40, [.int .i64 0, .int .i64 0, .map none, .map none, .map none]⟩),
  (192, ⟨.func, 1, 8, [.nilFunc]⟩),
  (184, ⟨.map 257 48, 1, 8, [.map none]⟩),
  (185, ⟨.map 257 42, 1, 8, [.map none]⟩),
  (186, ⟨.map 257 4, 1, 8, [.map none]⟩),
  (236, ⟨.func, 1, 8, [.nilFunc]⟩),
  (257, ⟨.struct [(3, 0), (3, 1)], 2, 16, [.int .i64 0, .int .i64 0]⟩)]
  [3, 4, 5, 6, 7, 8, 9, 10, 11, 12, 13, 14, 15, 16, 17, 18, 19, 20, 21, 22, 23, 24, 25, 26, 27, 28, 29, 30, 31, 32, 33, 34, 35, 36, 37, 38, 39, 40, 41, 42, 43, 44, 45, 46, 47, 48, 49, 50, 51, 52, 53, 54, 55, 56, 57, 58, 59, 60, 61, 62, 63, 64, 65, 66, 67, 68, 69, 70, 71, 72, 73, 74, 75, 76, 77, 78, 79, 80, 81, 82, 83, 84, 85, 86, 87, 88, 89, 90, 91, 92, 93, 94, 95, 96, 97, 98, 99, 100, 101, 102, 103, 104, 105, 106, 107, 108, 109, 110, 111, 112, 113, 114, 115, 116, 117, 118]
theorem T_ok : T.Ok Pr := tab_of (by kernel_rfl)
theorem mixed : Pr.follows .mixedOrders = true := by kernel_rfl
abbrev t_int : Nat := 3
abbrev t_bool : Nat := 4
abbrev t_api_Errno : Nat := 27
abbrev t_p_heap_Heap : Nat := 30
abbrev t_api_Ref : Nat := 79
abbrev t_p_mutate_Mutator : Nat := 71
abbrev t_uint64 : Nat := 76
abbrev t_s_int : Nat := 48
abbrev t_s_api_Ref : Nat := 74
abbrev t_geom_Geom : Nat := 26
abbrev t_api_Header : Nat := 134
abbrev t_api_Op : Nat := 78
abbrev t_api_OpKind : Nat := 75
abbrev t_s_uint64 : Nat := 33
abbrev t_mutate_Result : Nat := 146
abbrev t_api_Config : Nat := 23
abbrev t_heap_Heap : Nat := 46
abbrev t_p_roots_Stack : Nat := 52
abbrev t_mutate_Mutator : Nat := 153
abbrev t_p_arena_Arena : Nat := 36
abbrev t_p_gleanerlaw15_World : Nat := 59
abbrev t_p_region_Table : Nat := 37
abbrev t_uint : Nat := 90
abbrev t_api_RegionState : Nat := 50
abbrev t_api_Answer : Nat := 144
abbrev t_gleanerlaw15_World : Nat := 70
abbrev t_s_p_roots_Stack : Nat := 43
abbrev t_mutate_phase : Nat := 151
abbrev t_api_HeadKind : Nat := 132
abbrev t_p_gleanerref12_Stack : Nat := 198
abbrev t_p_offs_Table : Nat := 38
abbrev t_p_gleanerref13_Graph : Nat := 68
abbrev t_s_s_api_Op : Nat := 62
abbrev t_geom_bound : Nat := 174
abbrev t_heap_object : Nat := 115
abbrev t_map_api_Ref_heap_object : Nat := 107
abbrev t_s_region_one : Nat := 120
abbrev t_p_mutate_Shared : Nat := 66
abbrev t_s_api_Op : Nat := 58
abbrev t_p_bits_Set : Nat := 42
abbrev t_p_buffer_Buffer : Nat := 127
abbrev t_buffer_Buffer : Nat := 54
abbrev t_region_Table : Nat := 122
abbrev t_int32 : Nat := 21
abbrev t_p_queue_Queue : Nat := 40
abbrev t_region_one : Nat := 124
abbrev t_p_region_one : Nat := 167
abbrev t_gleanerref13_Graph : Nat := 159
abbrev t_p_gleanerref13_Object : Nat := 226
abbrev t_roots_Stack : Nat := 126
abbrev t_s_p_gleanerref12_Stack : Nat := 157
abbrev t_s_buffer_Buffer : Nat := 44
abbrev t_s_s_api_Ref : Nat := 63
abbrev t_s_p_mutate_Mutator : Nat := 67
abbrev t_gleanerref12_Stack : Nat := 221
abbrev t_mutate_Shared : Nat := 65
abbrev t_p_uint64 : Nat := 207
abbrev t_s_s_int : Nat := 181
abbrev t_p_cards_Table : Nat := 39
abbrev t_map_api_Ref_uint64 : Nat := 110
abbrev t_arena_Arena : Nat := 117
abbrev t_s_gleanerref13_Object : Nat := 156
abbrev t_offs_Table : Nat := 178
abbrev t_queue_Queue : Nat := 183
abbrev t_gleanerref13_Object : Nat := 224
abbrev t_s_uint32 : Nat := 176
abbrev t_p_api_Ref : Nat := 204
abbrev t_p_remset_Sets : Nat := 41
abbrev t_bits_Set : Nat := 119
abbrev t_uint32 : Nat := 235
abbrev t_cards_Table : Nat := 180
abbrev t_p_api_Answer : Nat := 203
abbrev t_s_geom_bound : Nat := 175
abbrev t_remset_Sets : Nat := 188
abbrev t_map_remset_pair_s_int : Nat := 184
abbrev t_map_remset_pair_p_bits_Set : Nat := 185
abbrev t_map_remset_pair_bool : Nat := 186
abbrev t_remset_pair : Nat := 257
theorem zv_bool : ∀ w, (zeroValue 4).run Pr w = .ok (.bool false) w := @Try.zeroValue4
theorem zv_uint64 : ∀ w, (zeroValue 76).run Pr w = .ok (.int .u64 0) w := @Try.zeroValue76
theorem zv_s_int : ∀ w, (zeroValue 48).run Pr w = .ok (.slice none 0 0) w := @Try.zeroValue48
theorem zv_heap_object : ∀ w, (zeroValue 115).run Pr w = .ok (.agg #[.int .i64 0, .slice none 0 0, .slice none 0 0]) w := @Try.zeroValue115
theorem zv_p_bits_Set : ∀ w, (zeroValue 42).run Pr w = .ok (.pointer none) w := @Try.zeroValue42
abbrev f_gleanerlaw14_HeapNews : Nat := 3
theorem fun_gleanerlaw14_HeapNews : Pr.funcs[f_gleanerlaw14_HeapNews]? = some Try.f3 := Try.func3
abbrev f_gleanerlaw15_MutateSteps : Nat := 4
theorem fun_gleanerlaw15_MutateSteps : Pr.funcs[f_gleanerlaw15_MutateSteps]? = some Try.f4 := Try.func4
abbrev f_gleanerlaw15_MutateLogs : Nat := 5
theorem fun_gleanerlaw15_MutateLogs : Pr.funcs[f_gleanerlaw15_MutateLogs]? = some Try.f5 := Try.func5
abbrev f_gleanerlaw14_awake : Nat := 6
theorem fun_gleanerlaw14_awake : Pr.funcs[f_gleanerlaw14_awake]? = some Try.f6 := Try.func6
abbrev f_geom_New : Nat := 7
theorem fun_geom_New : Pr.funcs[f_geom_New]? = some Try.f7 := Try.func7
abbrev f_heap_New : Nat := 8
theorem fun_heap_New : Pr.funcs[f_heap_New]? = some Try.f8 := Try.func8
abbrev f_heap_Heap_Shape : Nat := 9
theorem fun_heap_Heap_Shape : Pr.funcs[f_heap_Heap_Shape]? = some Try.f9 := Try.func9
abbrev f_arena_Arena_Len : Nat := 10
theorem fun_arena_Arena_Len : Pr.funcs[f_arena_Arena_Len]? = some Try.f10 := Try.func10
abbrev f_bits_Set_Len : Nat := 11
theorem fun_bits_Set_Len : Pr.funcs[f_bits_Set_Len]? = some Try.f11 := Try.func11
abbrev f_region_Table_List : Nat := 12
theorem fun_region_Table_List : Pr.funcs[f_region_Table_List]? = some Try.f12 := Try.func12
abbrev f_heap_Heap_Check : Nat := 13
theorem fun_heap_Heap_Check : Pr.funcs[f_heap_Heap_Check]? = some Try.f13 := Try.func13
abbrev f_roots_Stack_Room : Nat := 14
theorem fun_roots_Stack_Room : Pr.funcs[f_roots_Stack_Room]? = some Try.f14 := Try.func14
abbrev f_buffer_Buffer_Left : Nat := 15
theorem fun_buffer_Buffer_Left : Pr.funcs[f_buffer_Buffer_Left]? = some Try.f15 := Try.func15
abbrev f_heap_Heap_Row : Nat := 16
theorem fun_heap_Heap_Row : Pr.funcs[f_heap_Heap_Row]? = some Try.f16 := Try.func16
abbrev f_gleanerlaw15_awake : Nat := 17
theorem fun_gleanerlaw15_awake : Pr.funcs[f_gleanerlaw15_awake]? = some Try.f17 := Try.func17
abbrev f_gleanerlaw15_Begin : Nat := 18
theorem fun_gleanerlaw15_Begin : Pr.funcs[f_gleanerlaw15_Begin]? = some Try.f18 := Try.func18
abbrev f_mutate_Mutator_Idle : Nat := 19
theorem fun_mutate_Mutator_Idle : Pr.funcs[f_mutate_Mutator_Idle]? = some Try.f19 := Try.func19
abbrev f_arena_Arena_Accesses : Nat := 20
theorem fun_arena_Arena_Accesses : Pr.funcs[f_arena_Arena_Accesses]? = some Try.f20 := Try.func20
abbrev f_gleanerlaw15_World_Step : Nat := 21
theorem fun_gleanerlaw15_World_Step : Pr.funcs[f_gleanerlaw15_World_Step]? = some Try.f21 := Try.func21
abbrev f_gleanerlaw15_World_there : Nat := 22
theorem fun_gleanerlaw15_World_there : Pr.funcs[f_gleanerlaw15_World_there]? = some Try.f22 := Try.func22
abbrev f_gleanerlaw14_small : Nat := 23
theorem fun_gleanerlaw14_small : Pr.funcs[f_gleanerlaw14_small]? = some Try.f23 := Try.func23
abbrev f_region_Table_Claim : Nat := 24
theorem fun_region_Table_Claim : Pr.funcs[f_region_Table_Claim]? = some Try.f24 := Try.func24
abbrev f_region_Table_Bump : Nat := 25
theorem fun_region_Table_Bump : Pr.funcs[f_region_Table_Bump]? = some Try.f25 := Try.func25
abbrev f_parse_Make : Nat := 26
theorem fun_parse_Make : Pr.funcs[f_parse_Make]? = some Try.f26 := Try.func26
abbrev f_roots_Stack_Push : Nat := 27
theorem fun_roots_Stack_Push : Pr.funcs[f_roots_Stack_Push]? = some Try.f27 := Try.func27
abbrev f_gleanerref13_Same : Nat := 28
theorem fun_gleanerref13_Same : Pr.funcs[f_gleanerref13_Same]? = some Try.f28 := Try.func28
abbrev f_geom_may : Nat := 29
theorem fun_geom_may : Pr.funcs[f_geom_may]? = some Try.f29 := Try.func29
abbrev f_arena_New : Nat := 30
theorem fun_arena_New : Pr.funcs[f_arena_New]? = some Try.f30 := Try.func30
abbrev f_region_New : Nat := 31
theorem fun_region_New : Pr.funcs[f_region_New]? = some Try.f31 := Try.func31
abbrev f_offs_New : Nat := 32
theorem fun_offs_New : Pr.funcs[f_offs_New]? = some Try.f32 := Try.func32
abbrev f_cards_New : Nat := 33
theorem fun_cards_New : Pr.funcs[f_cards_New]? = some Try.f33 := Try.func33
abbrev f_queue_New : Nat := 34
theorem fun_queue_New : Pr.funcs[f_queue_New]? = some Try.f34 := Try.func34
abbrev f_remset_New : Nat := 35
theorem fun_remset_New : Pr.funcs[f_remset_New]? = some Try.f35 := Try.func35
abbrev f_bits_New : Nat := 36
theorem fun_bits_New : Pr.funcs[f_bits_New]? = some Try.f36 := Try.func36
abbrev f_roots_New : Nat := 37
theorem fun_roots_New : Pr.funcs[f_roots_New]? = some Try.f37 := Try.func37
abbrev f_heap_Heap_objects : Nat := 38
theorem fun_heap_Heap_objects : Pr.funcs[f_heap_Heap_objects]? = some Try.f38 := Try.func38
abbrev f_heap_Heap_Shape_1 : Nat := 39
theorem fun_heap_Heap_Shape_1 : Pr.funcs[f_heap_Heap_Shape_1]? = some Try.f39 := Try.func39
abbrev f_roots_Stack_List : Nat := 40
theorem fun_roots_Stack_List : Pr.funcs[f_roots_Stack_List]? = some Try.f40 := Try.func40
abbrev f_buffer_Buffer_Rest : Nat := 41
theorem fun_buffer_Buffer_Rest : Pr.funcs[f_buffer_Buffer_Rest]? = some Try.f41 := Try.func41
abbrev f_geom_Geom_Base : Nat := 42
theorem fun_geom_Geom_Base : Pr.funcs[f_geom_Geom_Base]? = some Try.f42 := Try.func42
abbrev f_region_Table_State : Nat := 43
theorem fun_region_Table_State : Pr.funcs[f_region_Table_State]? = some Try.f43 := Try.func43
abbrev f_parse_At : Nat := 44
theorem fun_parse_At : Pr.funcs[f_parse_At]? = some Try.f44 := Try.func44
abbrev f_heap_Heap_whole : Nat := 45
theorem fun_heap_Heap_whole : Pr.funcs[f_heap_Heap_whole]? = some Try.f45 := Try.func45
abbrev f_parse_Starts : Nat := 46
theorem fun_parse_Starts : Pr.funcs[f_parse_Starts]? = some Try.f46 := Try.func46
abbrev f_heap_Heap_end : Nat := 47
theorem fun_heap_Heap_end : Pr.funcs[f_heap_Heap_end]? = some Try.f47 := Try.func47
abbrev f_gleanerlaw15_small : Nat := 48
theorem fun_gleanerlaw15_small : Pr.funcs[f_gleanerlaw15_small]? = some Try.f48 := Try.func48
abbrev f_mutate_New : Nat := 49
theorem fun_mutate_New : Pr.funcs[f_mutate_New]? = some Try.f49 := Try.func49
abbrev f_mutate_Mutator_Start : Nat := 50
theorem fun_mutate_Mutator_Start : Pr.funcs[f_mutate_Mutator_Start]? = some Try.f50 := Try.func50
abbrev f_mutate_Mutator_Step : Nat := 51
theorem fun_mutate_Mutator_Step : Pr.funcs[f_mutate_Mutator_Step]? = some Try.f51 := Try.func51
abbrev f_roots_Stack_Len : Nat := 52
theorem fun_roots_Stack_Len : Pr.funcs[f_roots_Stack_Len]? = some Try.f52 := Try.func52
abbrev f_gleanerref13_New : Nat := 53
theorem fun_gleanerref13_New : Pr.funcs[f_gleanerref13_New]? = some Try.f53 := Try.func53
abbrev f_gleanerlaw15_Over : Nat := 54
theorem fun_gleanerlaw15_Over : Pr.funcs[f_gleanerlaw15_Over]? = some Try.f54 := Try.func54
abbrev f_mutate_Mutator_Fail : Nat := 55
theorem fun_mutate_Mutator_Fail : Pr.funcs[f_mutate_Mutator_Fail]? = some Try.f55 := Try.func55
abbrev f_gleanerref13_Graph_Do : Nat := 56
theorem fun_gleanerref13_Graph_Do : Pr.funcs[f_gleanerref13_Graph_Do]? = some Try.f56 := Try.func56
abbrev f_roots_Stack_At : Nat := 57
theorem fun_roots_Stack_At : Pr.funcs[f_roots_Stack_At]? = some Try.f57 := Try.func57
abbrev f_heap_Heap_Object : Nat := 58
theorem fun_heap_Heap_Object : Pr.funcs[f_heap_Heap_Object]? = some Try.f58 := Try.func58
abbrev f_arena_Arena_Load : Nat := 59
theorem fun_arena_Arena_Load : Pr.funcs[f_arena_Arena_Load]? = some Try.f59 := Try.func59
abbrev f_region_plain : Nat := 60
theorem fun_region_plain : Pr.funcs[f_region_plain]? = some Try.f60 := Try.func60
abbrev f_region_Table_at : Nat := 61
theorem fun_region_Table_at : Pr.funcs[f_region_Table_at]? = some Try.f61 := Try.func61
abbrev f_region_Table_Top : Nat := 62
theorem fun_region_Table_Top : Pr.funcs[f_region_Table_Top]? = some Try.f62 := Try.func62
abbrev f_head_Pack : Nat := 63
theorem fun_head_Pack : Pr.funcs[f_head_Pack]? = some Try.f63 := Try.func63
abbrev f_arena_Arena_Zero : Nat := 64
theorem fun_arena_Arena_Zero : Pr.funcs[f_arena_Arena_Zero]? = some Try.f64 := Try.func64
abbrev f_arena_Arena_Store : Nat := 65
theorem fun_arena_Arena_Store : Pr.funcs[f_arena_Arena_Store]? = some Try.f65 := Try.func65
abbrev f_heap_Heap_read : Nat := 66
theorem fun_heap_Heap_read : Pr.funcs[f_heap_Heap_read]? = some Try.f66 := Try.func66
abbrev f_heap_Heap_objects_1 : Nat := 67
theorem fun_heap_Heap_objects_1 : Pr.funcs[f_heap_Heap_objects_1]? = some Try.f67 := Try.func67
abbrev f_slices_ContainsFunc___api_Ref_api_Ref_ : Nat := 68
theorem fun_slices_ContainsFunc___api_Ref_api_Ref_ : Pr.funcs[f_slices_ContainsFunc___api_Ref_api_Ref_]? = some Try.f68 := Try.func68
abbrev f_heap_Heap_objects_1_1 : Nat := 69
theorem fun_heap_Heap_objects_1_1 : Pr.funcs[f_heap_Heap_objects_1_1]? = some Try.f69 := Try.func69
abbrev f_slices_Clone___api_Ref_api_Ref_ : Nat := 70
theorem fun_slices_Clone___api_Ref_api_Ref_ : Pr.funcs[f_slices_Clone___api_Ref_api_Ref_]? = some Try.f70 := Try.func70
abbrev f_geom_log : Nat := 71
theorem fun_geom_log : Pr.funcs[f_geom_log]? = some Try.f71 := Try.func71
abbrev f_head_Unpack : Nat := 72
theorem fun_head_Unpack : Pr.funcs[f_head_Unpack]? = some Try.f72 := Try.func72
abbrev f_geom_Geom_Span : Nat := 73
theorem fun_geom_Geom_Span : Pr.funcs[f_geom_Geom_Span]? = some Try.f73 := Try.func73
abbrev f_parse_bounds : Nat := 74
theorem fun_parse_bounds : Pr.funcs[f_parse_bounds]? = some Try.f74 := Try.func74
abbrev f_geom_Geom_Region : Nat := 75
theorem fun_geom_Geom_Region : Pr.funcs[f_geom_Geom_Region]? = some Try.f75 := Try.func75
abbrev f_mutate_Mutator_alloc : Nat := 76
theorem fun_mutate_Mutator_alloc : Pr.funcs[f_mutate_Mutator_alloc]? = some Try.f76 := Try.func76
abbrev f_mutate_Mutator_field : Nat := 77
theorem fun_mutate_Mutator_field : Pr.funcs[f_mutate_Mutator_field]? = some Try.f77 := Try.func77
abbrev f_mutate_Mutator_plain : Nat := 78
theorem fun_mutate_Mutator_plain : Pr.funcs[f_mutate_Mutator_plain]? = some Try.f78 := Try.func78
abbrev f_gleanerref12_New : Nat := 79
theorem fun_gleanerref12_New : Pr.funcs[f_gleanerref12_New]? = some Try.f79 := Try.func79
abbrev f_mutate_Mutator_answer : Nat := 80
theorem fun_mutate_Mutator_answer : Pr.funcs[f_mutate_Mutator_answer]? = some Try.f80 := Try.func80
abbrev f_gleanerref13_Graph_step : Nat := 81
theorem fun_gleanerref13_Graph_step : Pr.funcs[f_gleanerref13_Graph_step]? = some Try.f81 := Try.func81
abbrev f_roots_Stack_slot : Nat := 82
theorem fun_roots_Stack_slot : Pr.funcs[f_roots_Stack_slot]? = some Try.f82 := Try.func82
abbrev f_arena_Arena_word : Nat := 83
theorem fun_arena_Arena_word : Pr.funcs[f_arena_Arena_word]? = some Try.f83 := Try.func83
abbrev f_arena_Arena_row : Nat := 84
theorem fun_arena_Arena_row : Pr.funcs[f_arena_Arena_row]? = some Try.f84 := Try.func84
abbrev f_slices_IndexFunc___api_Ref_api_Ref_ : Nat := 85
theorem fun_slices_IndexFunc___api_Ref_api_Ref_ : Pr.funcs[f_slices_IndexFunc___api_Ref_api_Ref_]? = some Try.f85 := Try.func85
abbrev f_head_part : Nat := 86
theorem fun_head_part : Pr.funcs[f_head_part]? = some Try.f86 := Try.func86
abbrev f_mutate_Mutator_size : Nat := 87
theorem fun_mutate_Mutator_size : Pr.funcs[f_mutate_Mutator_size]? = some Try.f87 := Try.func87
abbrev f_mutate_Mutator_place : Nat := 88
theorem fun_mutate_Mutator_place : Pr.funcs[f_mutate_Mutator_place]? = some Try.f88 := Try.func88
abbrev f_mutate_Mutator_on : Nat := 89
theorem fun_mutate_Mutator_on : Pr.funcs[f_mutate_Mutator_on]? = some Try.f89 := Try.func89
abbrev f_geom_Geom_Big : Nat := 90
theorem fun_geom_Geom_Big : Pr.funcs[f_geom_Geom_Big]? = some Try.f90 := Try.func90
abbrev f_offs_Table_Put : Nat := 91
theorem fun_offs_Table_Put : Pr.funcs[f_offs_Table_Put]? = some Try.f91 := Try.func91
abbrev f_mutate_Mutator_stack : Nat := 92
theorem fun_mutate_Mutator_stack : Pr.funcs[f_mutate_Mutator_stack]? = some Try.f92 := Try.func92
abbrev f_mutate_Mutator_find : Nat := 93
theorem fun_mutate_Mutator_find : Pr.funcs[f_mutate_Mutator_find]? = some Try.f93 := Try.func93
abbrev f_mutate_Mutator_note : Nat := 94
theorem fun_mutate_Mutator_note : Pr.funcs[f_mutate_Mutator_note]? = some Try.f94 := Try.func94
abbrev f_cards_Note : Nat := 95
theorem fun_cards_Note : Pr.funcs[f_cards_Note]? = some Try.f95 := Try.func95
abbrev f_roots_Stack_Pop : Nat := 96
theorem fun_roots_Stack_Pop : Pr.funcs[f_roots_Stack_Pop]? = some Try.f96 := Try.func96
abbrev f_gleanerref13_Graph_size : Nat := 97
theorem fun_gleanerref13_Graph_size : Pr.funcs[f_gleanerref13_Graph_size]? = some Try.f97 := Try.func97
abbrev f_gleanerref13_full : Nat := 98
theorem fun_gleanerref13_full : Pr.funcs[f_gleanerref13_full]? = some Try.f98 := Try.func98
abbrev f_gleanerref12_Stack_Push : Nat := 99
theorem fun_gleanerref12_Stack_Push : Pr.funcs[f_gleanerref12_Stack_Push]? = some Try.f99 := Try.func99
abbrev f_gleanerref13_Graph_object : Nat := 100
theorem fun_gleanerref13_Graph_object : Pr.funcs[f_gleanerref13_Graph_object]? = some Try.f100 := Try.func100
abbrev f_gleanerref12_Stack_At : Nat := 101
theorem fun_gleanerref12_Stack_At : Pr.funcs[f_gleanerref12_Stack_At]? = some Try.f101 := Try.func101
abbrev f_gleanerref12_Stack_Pop : Nat := 102
theorem fun_gleanerref12_Stack_Pop : Pr.funcs[f_gleanerref12_Stack_Pop]? = some Try.f102 := Try.func102
abbrev f_gleanerref13_Graph_asks : Nat := 103
theorem fun_gleanerref13_Graph_asks : Pr.funcs[f_gleanerref13_Graph_asks]? = some Try.f103 := Try.func103
abbrev f_region_Table_Run : Nat := 104
theorem fun_region_Table_Run : Pr.funcs[f_region_Table_Run]? = some Try.f104 := Try.func104
abbrev f_buffer_Buffer_Take : Nat := 105
theorem fun_buffer_Buffer_Take : Pr.funcs[f_buffer_Buffer_Take]? = some Try.f105 := Try.func105
abbrev f_buffer_Buffer_Drop : Nat := 106
theorem fun_buffer_Buffer_Drop : Pr.funcs[f_buffer_Buffer_Drop]? = some Try.f106 := Try.func106
abbrev f_region_Table_SetTop : Nat := 107
theorem fun_region_Table_SetTop : Pr.funcs[f_region_Table_SetTop]? = some Try.f107 := Try.func107
abbrev f_buffer_New : Nat := 108
theorem fun_buffer_New : Pr.funcs[f_buffer_New]? = some Try.f108 := Try.func108
abbrev f_offs_Table_row : Nat := 109
theorem fun_offs_Table_row : Pr.funcs[f_offs_Table_row]? = some Try.f109 := Try.func109
abbrev f_offs_Table_cards : Nat := 110
theorem fun_offs_Table_cards : Pr.funcs[f_offs_Table_cards]? = some Try.f110 := Try.func110
abbrev f_offs_Table_Put_1 : Nat := 111
theorem fun_offs_Table_Put_1 : Pr.funcs[f_offs_Table_Put_1]? = some Try.f111 := Try.func111
abbrev f_geom_Geom_Card : Nat := 112
theorem fun_geom_Geom_Card : Pr.funcs[f_geom_Geom_Card]? = some Try.f112 := Try.func112
abbrev f_cards_Table_Dirty : Nat := 113
theorem fun_cards_Table_Dirty : Pr.funcs[f_cards_Table_Dirty]? = some Try.f113 := Try.func113
abbrev f_queue_Queue_Push : Nat := 114
theorem fun_queue_Queue_Push : Pr.funcs[f_queue_Queue_Push]? = some Try.f114 := Try.func114
abbrev f_geom_Geom_Cross : Nat := 115
theorem fun_geom_Geom_Cross : Pr.funcs[f_geom_Geom_Cross]? = some Try.f115 := Try.func115
abbrev f_region_Table_hold : Nat := 116
theorem fun_region_Table_hold : Pr.funcs[f_region_Table_hold]? = some Try.f116 := Try.func116
abbrev f_bits_Set_Put : Nat := 117
theorem fun_bits_Set_Put : Pr.funcs[f_bits_Set_Put]? = some Try.f117 := Try.func117
abbrev f_bits_Set_check : Nat := 118
theorem fun_bits_Set_check : Pr.funcs[f_bits_Set_check]? = some Try.f118 := Try.func118
end Go.Proofs.Ytdhbpklmkibmbaa
