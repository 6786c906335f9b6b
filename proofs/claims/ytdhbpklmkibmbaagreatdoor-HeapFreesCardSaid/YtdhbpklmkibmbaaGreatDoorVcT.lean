/- The seat's own names and numbers, out of the translation's listing, by a small program. -/
import Derived.Test.YtdhbpklmkibmbaaGreatDoorProg
import Derived.Test.YtdhbpklmkibmbaaGreatDoorVcG
import Derived.KernelRfl
namespace Go.Proofs.YtdhbpklmkibmbaaGreatDoor
open Go.Vc
noncomputable abbrev Pr : Program := Tryz.prog
noncomputable def T : Tab := Tab.mk [
  (3, ⟨.int .i64, 1, 8, [.int .i64 0]⟩),
  (4, ⟨.bool, 1, 1, [.bool false]⟩),
  (51, ⟨.int .i64, 1, 8, [.int .i64 0]⟩),
  (31, ⟨.slice 3, 1, 24, [.slice none 0 0]⟩),
  (95, ⟨.int .u64, 1, 8, [.int .u64 0]⟩),
  (30, ⟨.ptr 48, 1, 8, [.pointer none]⟩),
  (131, ⟨.struct [(3, 0), (3, 1)], 2, 16, [.int .i64 0, .int .i64 0]⟩),
  (305, ⟨.slice 131, 1, 24, [.slice none 0 0]⟩),
  (37, ⟨.struct [(3, 0), (3, 1), (3, 2), (3, 3), (3, 4), (3, 5)], 6, 48, [.int .i64 0, .int .i64 0, .int .i64 0, .int .i64 0, .int .i64 0, .int .i64 0]⟩),
  (48, ⟨.struct [(23, 0), (37, 14), (38, 20), (39, 21), (40, 22), (41, 23), (42, 24), (43, 25), (44, 26), (45, 27), (46, 28)], 29, 264, [.int .i64 0, .int .i64 0, .int .i64 0, .int .i64 0, .int .i64 0, .int .i64 0, .int .i64 0, .int .i64 0, .int .i64 0, .int .i64 0, .int .i64 0, .int .i64 0, .int .i64 0, .int .i64 0, .int .i64 0, .int .i64 0, .int .i64 0, .int .i64 0, .int .i64 0, .int .i64 0, .pointer none, .pointer none, .pointer none, .pointer none, .pointer none, .pointer none, .pointer none, .slice none 0 0, .slice none 0 0]⟩),
  (96, ⟨.int .u64, 1, 8, [.int .u64 0]⟩),
  (185, ⟨.struct [(183, 0), (3, 1), (3, 2), (3, 3), (3, 4)], 5, 40, [.int .i64 0, .int .i64 0, .int .i64 0, .int .i64 0, .int .i64 0]⟩),
  (117, ⟨.int .u64, 1, 8, [.int .u64 0]⟩),
  (147, ⟨.ptr 237, 1, 8, [.pointer none]⟩),
  (175, ⟨.slice 96, 1, 24, [.slice none 0 0]⟩),
  (49, ⟨.int .i64, 1, 8, [.int .i64 0]⟩),
  (97, ⟨.slice 95, 1, 24, [.slice none 0 0]⟩),
  (81, ⟨.ptr 190, 1, 8, [.pointer none]⟩),
  (39, ⟨.ptr 140, 1, 8, [.pointer none]⟩),
  (23, ⟨.struct [(3, 0), (3, 1), (3, 2), (3, 3), (3, 4), (3, 5), (3, 6), (3, 7), (3, 8), (3, 9), (3, 10), (3, 11), (3, 12), (3, 13)], 14, 112, List.replicate 14 (.int .i64 0)⟩),
  (153, ⟨.struct [(151, 0), (3, 1), (3, 2), (3, 3), (95, 4)], 5, 40, [.int .i64 0, .int .i64 0, .int .i64 0, .int .i64 0, .int .u64 0]⟩),
  (151, ⟨.int .i64, 1, 8, [.int .i64 0]⟩),
  (157, ⟨.struct [(155, 0), (4, 5), (4, 6), (4, 7), (31, 8)], 9, 72, [.int .i64 0, .int .i64 0, .int .i64 0, .int .u64 0, .bool false, .bool false, .bool false, .bool false, .slice none 0 0]⟩),
  (44, ⟨.ptr 121, 1, 8, [.pointer none]⟩),
  (38, ⟨.ptr 260, 1, 8, [.pointer none]⟩),
  (93, ⟨.ptr 221, 1, 8, [.pointer none]⟩),
  (43, ⟨.ptr 129, 1, 8, [.pointer none]⟩),
  (237, ⟨.struct [(30, 0), (73, 1), (3, 2), (3, 3), (235, 4), (153, 5), (3, 10)], 11, 88, [.pointer none, .pointer none, .int .i64 0, .int .i64 0, .int .i64 0, .int .i64 0, .int .i64 0, .int .i64 0, .int .i64 0, .int .u64 0, .int .i64 0]⟩),
  (33, ⟨.struct [(30, 0), (31, 1)], 2, 32, [.pointer none, .slice none 0 0]⟩),
  (105, ⟨.struct [(49, 0), (31, 1), (97, 2)], 3, 56, [.int .i64 0, .slice none 0 0, .slice none 0 0]⟩),
  (40, ⟨.ptr 135, 1, 8, [.pointer none]⟩),
  (190, ⟨.struct [(30, 0), (4, 1), (188, 2), (31, 3), (175, 4), (4, 5), (3, 6)], 7, 104, [.pointer none, .bool false, .slice none 0 0, .slice none 0 0, .slice none 0 0, .bool false, .int .i64 0]⟩),
  (69, ⟨.ptr 77, 1, 8, [.pointer none]⟩),
  (155, ⟨.struct [(3, 0), (3, 1), (51, 2), (95, 3), (4, 4)], 5, 40, [.int .i64 0, .int .i64 0, .int .i64 0, .int .u64 0, .bool false]⟩),
  (183, ⟨.int .i64, 1, 8, [.int .i64 0]⟩),
  (25, ⟨.slice 31, 1, 24, [.slice none 0 0]⟩),
  (235, ⟨.int .i64, 1, 8, [.int .i64 0]⟩),
  (27, ⟨.struct [(23, 0), (24, 14), (25, 15)], 16, 160, [.int .i64 0, .int .i64 0, .int .i64 0, .int .i64 0, .int .i64 0, .int .i64 0, .int .i64 0, .int .i64 0, .int .i64 0, .int .i64 0, .int .i64 0, .int .i64 0, .int .i64 0, .int .i64 0, .slice none 0 0, .slice none 0 0]⟩),
  (238, ⟨.ptr 291, 1, 8, [.pointer none]⟩),
  (310, ⟨.int .u64, 1, 8, [.int .u64 0]⟩),
  (45, ⟨.slice 93, 1, 24, [.slice none 0 0]⟩),
  (308, ⟨.func, 1, 8, [.nilFunc]⟩),
  (77, ⟨.struct [(30, 0), (73, 1), (74, 2), (68, 3), (31, 4), (75, 5), (31, 6), (3, 7), (4, 8)], 9, 136, [.pointer none, .pointer none, .slice none 0 0, .slice none 0 0, .slice none 0 0, .pointer none, .slice none 0 0, .int .i64 0, .bool false]⟩),
  (75, ⟨.ptr 170, 1, 8, [.pointer none]⟩),
  (136, ⟨.int .u32, 1, 4, [.int .u32 0]⟩),
  (41, ⟨.ptr 123, 1, 8, [.pointer none]⟩),
  (129, ⟨.struct [(3, 0), (3, 1), (125, 2), (126, 3), (127, 4)], 5, 40, [.int .i64 0, .int .i64 0, .map none, .map none, .map none]⟩),
  (177, ⟨.struct [(3, 0), (175, 1), (97, 2)], 3, 56, [.int .i64 0, .slice none 0 0, .slice none 0 0]⟩),
  (288, ⟨.struct [(3, 0), (3, 1), (3, 2)], 3, 24, [.int .i64 0, .int .i64 0, .int .i64 0]⟩),
  (112, ⟨.ptr 116, 1, 8, [.pointer none]⟩),
  (172, ⟨.map 96 177, 1, 8, [.map none]⟩),
  (101, ⟨.struct [(3, 0), (3, 1), (3, 2), (3, 3), (3, 4), (3, 5)], 6, 48, [.int .i64 0, .int .i64 0, .int .i64 0, .int .i64 0, .int .i64 0, .int .i64 0]⟩),
  (42, ⟨.ptr 181, 1, 8, [.pointer none]⟩),
  (126, ⟨.map 131 44, 1, 8, [.map none]⟩),
  (24, ⟨.slice 105, 1, 24, [.slice none 0 0]⟩),
  (63, ⟨.struct [(3, 0), (3, 1)], 2, 16, [.int .i64 0, .int .i64 0]⟩),
  (116, ⟨.struct [(49, 0), (21, 1), (21, 2)], 3, 16, [.int .i64 0, .int .i32 0, .int .i32 0]⟩),
  (138, ⟨.slice 116, 1, 24, [.slice none 0 0]⟩),
  (188, ⟨.slice 202, 1, 24, [.slice none 0 0]⟩),
  (272, ⟨.int .i64, 1, 8, [.int .i64 0]⟩),
  (21, ⟨.int .i32, 1, 4, [.int .i32 0]⟩),
  (143, ⟨.ptr 63, 1, 8, [.pointer none]⟩),
  (46, ⟨.slice 63, 1, 24, [.slice none 0 0]⟩),
  (68, ⟨.slice 164, 1, 24, [.slice none 0 0]⟩),
  (125, ⟨.map 131 31, 1, 8, [.map none]⟩),
  (140, ⟨.struct [(3, 0), (138, 1)], 2, 32, [.int .i64 0, .slice none 0 0]⟩),
  (127, ⟨.map 131 4, 1, 8, [.map none]⟩),
  (119, ⟨.ptr 95, 1, 8, [.pointer none]⟩),
  (133, ⟨.slice 136, 1, 24, [.slice none 0 0]⟩),
  (170, ⟨.struct [(3, 0), (167, 1), (168, 2), (31, 3)], 4, 80, [.int .i64 0, .slice none 0 0, .slice none 0 0, .slice none 0 0]⟩),
  (73, ⟨.ptr 146, 1, 8, [.pointer none]⟩),
  (121, ⟨.struct [(3, 0), (97, 1)], 2, 32, [.int .i64 0, .slice none 0 0]⟩),
  (296, ⟨.ptr 294, 1, 8, [.pointer none]⟩),
  (74, ⟨.slice 147, 1, 24, [.slice none 0 0]⟩),
  (135, ⟨.struct [(3, 0), (3, 1), (133, 2)], 3, 40, [.int .i64 0, .int .i64 0, .slice none 0 0]⟩),
  (168, ⟨.slice 238, 1, 24, [.slice none 0 0]⟩),
  (221, ⟨.struct [(3, 0), (175, 1)], 2, 32, [.int .i64 0, .slice none 0 0]⟩),
  (164, ⟨.slice 153, 1, 24, [.slice none 0 0]⟩),
  (181, ⟨.struct [(3, 0), (31, 1), (25, 2)], 3, 56, [.int .i64 0, .slice none 0 0, .slice none 0 0]⟩),
  (291, ⟨.struct [(3, 0), (175, 1)], 2, 32, [.int .i64 0, .slice none 0 0]⟩),
  (144, ⟨.slice 175, 1, 24, [.slice none 0 0]⟩),
  (191, ⟨.func, 1, 8, [.nilFunc]⟩),
  (222, ⟨.map 96 95, 1, 8, [.map none]⟩),
  (5, ⟨.int .u8, 1, 1, [.int .u8 0]⟩),
  (167, ⟨.slice 294, 1, 24, [.slice none 0 0]⟩),
  (202, ⟨.struct [(3, 0), (3, 1)], 2, 16, [.int .i64 0, .int .i64 0]⟩),
  (260, ⟨.struct [(97, 0), (3, 1)], 2, 32, [.slice none 0 0, .int .i64 0]⟩),
  (146, ⟨.struct [(4, 0), (144, 1)], 2, 32, [.bool false, .slice none 0 0]⟩),
  (313, ⟨.ptr 3, 1, 8, [.pointer none]⟩),
  (231, ⟨.func, 1, 8, [.nilFunc]⟩),
  (294, ⟨.struct [(175, 0), (97, 1)], 2, 48, [.slice none 0 0, .slice none 0 0]⟩),
  (200, ⟨.ptr 202, 1, 8, [.pointer none]⟩),
  (123, ⟨.struct [(44, 0)], 1, 8, [.pointer none]⟩),
  (306, ⟨.func, 1, 8, [.nilFunc]⟩),
  (318, ⟨.ptr 96, 1, 8, [.pointer none]⟩),
  (322, ⟨.ptr 310, 1, 8, [.pointer none]⟩),
  (9, ⟨.str, 1, 16, [.string ByteArray.empty]⟩),
  (224, ⟨.func, 1, 8, [.nilFunc]⟩),
  (243, ⟨.ptr 155, 1, 8, [.pointer none]⟩),
  (248, ⟨.func, 1, 8, [.nilFunc]⟩),
  (304, ⟨.arr 64 5, 64, 64, List.replicate 64 (.int .u8 0)⟩),
  (20, ⟨.iface, 1, 16, [.nilIface]⟩),
  (247, ⟨.func, 1, 8, [.nilFunc]⟩),
  (289, ⟨.slice 288, 1, 24, [.slice none 0 0]⟩),
  (266, ⟨.func, 1, 8, [.nilFunc]⟩),
  (268, ⟨.func, 1, 8, [.nilFunc]⟩),
  (270, ⟨.func, 1, 8, [.nilFunc]⟩)]
  [3, 4, 5, 6, 7, 8, 9, 10, 11, 12, 13, 14, 15, 16, 17, 18, 19, 20, 21, 22, 23, 24, 25, 26, 27, 28, 29, 30, 31, 32, 33, 34, 35, 36, 37, 38, 39, 40, 41, 42, 43, 44, 45, 46, 47, 48, 49, 50, 51, 52, 53, 54, 55, 56, 57, 58, 59, 60, 61, 62, 63, 64, 65, 66, 67, 68, 69, 70, 71, 72, 73, 74, 75, 76, 77, 78, 79, 80, 81, 82, 83, 84, 85, 86, 87, 88, 89, 90, 91, 92, 93, 94, 95, 96, 97, 98, 99, 100, 101, 102, 103, 104, 105, 106, 107, 108, 109, 110, 111, 112, 113, 114, 115, 116, 117, 118, 119, 120, 121, 122, 123, 124, 125, 126, 127, 128, 129, 130, 131, 132, 133, 134, 135, 136, 137, 138, 139, 140, 141, 142, 143, 144, 145, 146, 147, 148, 149, 150, 151, 152, 153, 154, 155, 156, 157, 158, 159, 160, 161, 162, 163, 164, 165, 166, 167, 168, 169, 170, 171, 172, 173, 174, 175, 176, 177, 178, 179, 180, 181, 182, 183, 184, 185, 186, 187, 188, 189, 190, 191, 192, 193, 194, 195, 196, 197, 198, 199, 200, 201, 202, 203, 204, 205, 206, 207, 208, 209, 210, 211, 212, 213, 214, 215, 216, 217, 218, 219, 220, 221, 222, 223, 224, 225, 226, 227, 228, 229, 230, 231, 232, 233, 259]
theorem T_ok : T.Ok Pr := tab_of (by kernel_rfl)
theorem mixed : Pr.follows .mixedOrders = true := by kernel_rfl
abbrev t_int : Nat := 3
abbrev t_bool : Nat := 4
abbrev t_api_Errno : Nat := 51
abbrev t_s_int : Nat := 31
abbrev t_uint64 : Nat := 95
abbrev t_p_heap_Heap : Nat := 30
abbrev t_remset_pair : Nat := 131
abbrev t_s_remset_pair : Nat := 305
abbrev t_geom_Geom : Nat := 37
abbrev t_heap_Heap : Nat := 48
abbrev t_api_Ref : Nat := 96
abbrev t_api_Header : Nat := 185
abbrev t_uint : Nat := 117
abbrev t_p_mutate_Mutator : Nat := 147
abbrev t_s_api_Ref : Nat := 175
abbrev t_api_RegionState : Nat := 49
abbrev t_s_uint64 : Nat := 97
abbrev t_p_mark_Cycle : Nat := 81
abbrev t_p_region_Table : Nat := 39
abbrev t_api_Config : Nat := 23
abbrev t_api_Op : Nat := 153
abbrev t_api_OpKind : Nat := 151
abbrev t_mutate_Result : Nat := 157
abbrev t_p_bits_Set : Nat := 44
abbrev t_p_arena_Arena : Nat := 38
abbrev t_p_roots_Stack : Nat := 93
abbrev t_p_remset_Sets : Nat := 43
abbrev t_mutate_Mutator : Nat := 237
abbrev t_gleanerlaw14_Built : Nat := 33
abbrev t_gleanerref14_Thing : Nat := 105
abbrev t_p_offs_Table : Nat := 40
abbrev t_mark_Cycle : Nat := 190
abbrev t_p_gleanerlaw15_World : Nat := 69
abbrev t_api_Answer : Nat := 155
abbrev t_api_HeadKind : Nat := 183
abbrev t_s_s_int : Nat := 25
abbrev t_mutate_phase : Nat := 235
abbrev t_gleanerref14_Plan : Nat := 27
abbrev t_p_gleanerref12_Stack : Nat := 238
abbrev t_slices_xorshift : Nat := 310
abbrev t_s_p_roots_Stack : Nat := 45
abbrev t_gleanerlaw15_World : Nat := 77
abbrev t_p_gleanerref13_Graph : Nat := 75
abbrev t_uint32 : Nat := 136
abbrev t_p_cards_Table : Nat := 41
abbrev t_remset_Sets : Nat := 129
abbrev t_heap_object : Nat := 177
abbrev t_geom_bound : Nat := 288
abbrev t_p_region_one : Nat := 112
abbrev t_map_api_Ref_heap_object : Nat := 172
abbrev t_gleanerref02_Geom : Nat := 101
abbrev t_p_queue_Queue : Nat := 42
abbrev t_map_remset_pair_p_bits_Set : Nat := 126
abbrev t_s_gleanerref14_Thing : Nat := 24
abbrev t_buffer_Buffer : Nat := 63
abbrev t_region_one : Nat := 116
abbrev t_s_region_one : Nat := 138
abbrev t_s_mark_place : Nat := 188
abbrev t_slices_sortedHint : Nat := 272
abbrev t_int32 : Nat := 21
abbrev t_p_buffer_Buffer : Nat := 143
abbrev t_s_buffer_Buffer : Nat := 46
abbrev t_s_s_api_Op : Nat := 68
abbrev t_map_remset_pair_s_int : Nat := 125
abbrev t_region_Table : Nat := 140
abbrev t_map_remset_pair_bool : Nat := 127
abbrev t_p_uint64 : Nat := 119
abbrev t_s_uint32 : Nat := 133
abbrev t_gleanerref13_Graph : Nat := 170
abbrev t_p_mutate_Shared : Nat := 73
abbrev t_bits_Set : Nat := 121
abbrev t_p_gleanerref13_Object : Nat := 296
abbrev t_s_p_mutate_Mutator : Nat := 74
abbrev t_offs_Table : Nat := 135
abbrev t_s_p_gleanerref12_Stack : Nat := 168
abbrev t_roots_Stack : Nat := 221
abbrev t_s_api_Op : Nat := 164
abbrev t_queue_Queue : Nat := 181
abbrev t_gleanerref12_Stack : Nat := 291
abbrev t_s_s_api_Ref : Nat := 144
abbrev t_map_api_Ref_uint64 : Nat := 222
abbrev t_uint8 : Nat := 5
abbrev t_s_gleanerref13_Object : Nat := 167
abbrev t_mark_place : Nat := 202
abbrev t_arena_Arena : Nat := 260
abbrev t_mutate_Shared : Nat := 146
abbrev t_p_int : Nat := 313
abbrev t_gleanerref13_Object : Nat := 294
abbrev t_p_mark_place : Nat := 200
abbrev t_cards_Table : Nat := 123
abbrev t_p_api_Ref : Nat := 318
abbrev t_p_slices_xorshift : Nat := 322
abbrev t_string : Nat := 9
abbrev t_p_api_Answer : Nat := 243
abbrev t__64_uint8 : Nat := 304
abbrev t_interface___ : Nat := 20
abbrev t_s_geom_bound : Nat := 289
theorem zv_bool : ∀ w, (zeroValue 4).run Pr w = .ok (.bool false) w := @Tryz.zeroValue4
theorem zv_s_int : ∀ w, (zeroValue 31).run Pr w = .ok (.slice none 0 0) w := @Tryz.zeroValue31
theorem zv_uint64 : ∀ w, (zeroValue 95).run Pr w = .ok (.int .u64 0) w := @Tryz.zeroValue95
theorem zv_p_bits_Set : ∀ w, (zeroValue 44).run Pr w = .ok (.pointer none) w := @Tryz.zeroValue44
theorem zv_heap_object : ∀ w, (zeroValue 177).run Pr w = .ok (.agg #[.int .i64 0, .slice none 0 0, .slice none 0 0]) w := @Tryz.zeroValue177
abbrev g_math_bits_deBruijn64tab : Nat := 0
abbrev f_gleanerlaw14_HeapFrees : Nat := 3
theorem fun_gleanerlaw14_HeapFrees : Pr.funcs[f_gleanerlaw14_HeapFrees]? = some Tryz.f3 := Tryz.func3
abbrev f_gleanerlaw15_MutateNotes : Nat := 4
theorem fun_gleanerlaw15_MutateNotes : Pr.funcs[f_gleanerlaw15_MutateNotes]? = some Tryz.f4 := Tryz.func4
abbrev f_gleanerlaw17_MarkNil : Nat := 5
theorem fun_gleanerlaw17_MarkNil : Pr.funcs[f_gleanerlaw17_MarkNil]? = some Tryz.f5 := Tryz.func5
abbrev f_gleanerlaw14_awake : Nat := 6
theorem fun_gleanerlaw14_awake : Pr.funcs[f_gleanerlaw14_awake]? = some Tryz.f6 := Tryz.func6
abbrev f_gleanerref14_Right : Nat := 7
theorem fun_gleanerref14_Right : Pr.funcs[f_gleanerref14_Right]? = some Tryz.f7 := Tryz.func7
abbrev f_gleanerlaw14_Build : Nat := 8
theorem fun_gleanerlaw14_Build : Pr.funcs[f_gleanerlaw14_Build]? = some Tryz.f8 := Tryz.func8
abbrev f_region_Table_State : Nat := 9
theorem fun_region_Table_State : Pr.funcs[f_region_Table_State]? = some Tryz.f9 := Tryz.func9
abbrev f_geom_Geom_Base : Nat := 10
theorem fun_geom_Geom_Base : Pr.funcs[f_geom_Geom_Base]? = some Tryz.f10 := Tryz.func10
abbrev f_bits_Set_Put : Nat := 11
theorem fun_bits_Set_Put : Pr.funcs[f_bits_Set_Put]? = some Tryz.f11 := Tryz.func11
abbrev f_cards_Table_Dirty : Nat := 12
theorem fun_cards_Table_Dirty : Pr.funcs[f_cards_Table_Dirty]? = some Tryz.f12 := Tryz.func12
abbrev f_geom_Geom_Card : Nat := 13
theorem fun_geom_Geom_Card : Pr.funcs[f_geom_Geom_Card]? = some Tryz.f13 := Tryz.func13
abbrev f_heap_Heap_Free : Nat := 14
theorem fun_heap_Heap_Free : Pr.funcs[f_heap_Heap_Free]? = some Tryz.f14 := Tryz.func14
abbrev f_bits_Set_Has : Nat := 15
theorem fun_bits_Set_Has : Pr.funcs[f_bits_Set_Has]? = some Tryz.f15 := Tryz.func15
abbrev f_cards_Table_Is : Nat := 16
theorem fun_cards_Table_Is : Pr.funcs[f_cards_Table_Is]? = some Tryz.f16 := Tryz.func16
abbrev f_remset_Sets_Cards : Nat := 17
theorem fun_remset_Sets_Cards : Pr.funcs[f_remset_Sets_Cards]? = some Tryz.f17 := Tryz.func17
abbrev f_geom_Geom_First : Nat := 18
theorem fun_geom_Geom_First : Pr.funcs[f_geom_Geom_First]? = some Tryz.f18 := Tryz.func18
abbrev f_geom_Geom_Region : Nat := 19
theorem fun_geom_Geom_Region : Pr.funcs[f_geom_Geom_Region]? = some Tryz.f19 := Tryz.func19
abbrev f_offs_Table_First : Nat := 20
theorem fun_offs_Table_First : Pr.funcs[f_offs_Table_First]? = some Tryz.f20 := Tryz.func20
abbrev f_region_Table_Claim : Nat := 21
theorem fun_region_Table_Claim : Pr.funcs[f_region_Table_Claim]? = some Tryz.f21 := Tryz.func21
abbrev f_region_Table_SetTop : Nat := 22
theorem fun_region_Table_SetTop : Pr.funcs[f_region_Table_SetTop]? = some Tryz.f22 := Tryz.func22
abbrev f_buffer_New : Nat := 23
theorem fun_buffer_New : Pr.funcs[f_buffer_New]? = some Tryz.f23 := Tryz.func23
abbrev f_heap_Heap_Retire : Nat := 24
theorem fun_heap_Heap_Retire : Pr.funcs[f_heap_Heap_Retire]? = some Tryz.f24 := Tryz.func24
abbrev f_buffer_Buffer_Left : Nat := 25
theorem fun_buffer_Buffer_Left : Pr.funcs[f_buffer_Buffer_Left]? = some Tryz.f25 := Tryz.func25
abbrev f_region_Table_Top : Nat := 26
theorem fun_region_Table_Top : Pr.funcs[f_region_Table_Top]? = some Tryz.f26 := Tryz.func26
abbrev f_gleanerlaw15_awake : Nat := 27
theorem fun_gleanerlaw15_awake : Pr.funcs[f_gleanerlaw15_awake]? = some Tryz.f27 := Tryz.func27
abbrev f_gleanerlaw15_Begin : Nat := 28
theorem fun_gleanerlaw15_Begin : Pr.funcs[f_gleanerlaw15_Begin]? = some Tryz.f28 := Tryz.func28
abbrev f_gleanerlaw15_World_Step : Nat := 29
theorem fun_gleanerlaw15_World_Step : Pr.funcs[f_gleanerlaw15_World_Step]? = some Tryz.f29 := Tryz.func29
abbrev f_gleanerlaw15_pick : Nat := 30
theorem fun_gleanerlaw15_pick : Pr.funcs[f_gleanerlaw15_pick]? = some Tryz.f30 := Tryz.func30
abbrev f_gleanerlaw15_World_Rest : Nat := 31
theorem fun_gleanerlaw15_World_Rest : Pr.funcs[f_gleanerlaw15_World_Rest]? = some Tryz.f31 := Tryz.func31
abbrev f_heap_Heap_Lost : Nat := 32
theorem fun_heap_Heap_Lost : Pr.funcs[f_heap_Heap_Lost]? = some Tryz.f32 := Tryz.func32
abbrev f_queue_Queue_Drain : Nat := 33
theorem fun_queue_Queue_Drain : Pr.funcs[f_queue_Queue_Drain]? = some Tryz.f33 := Tryz.func33
abbrev f_cards_Table_List : Nat := 34
theorem fun_cards_Table_List : Pr.funcs[f_cards_Table_List]? = some Tryz.f34 := Tryz.func34
abbrev f_gleanerlaw17_awake : Nat := 35
theorem fun_gleanerlaw17_awake : Pr.funcs[f_gleanerlaw17_awake]? = some Tryz.f35 := Tryz.func35
abbrev f_mark_Cycle_Clean : Nat := 36
theorem fun_mark_Cycle_Clean : Pr.funcs[f_mark_Cycle_Clean]? = some Tryz.f36 := Tryz.func36
abbrev f_mark_Cycle_Abort : Nat := 37
theorem fun_mark_Cycle_Abort : Pr.funcs[f_mark_Cycle_Abort]? = some Tryz.f37 := Tryz.func37
abbrev f_mark_Cycle_Active : Nat := 38
theorem fun_mark_Cycle_Active : Pr.funcs[f_mark_Cycle_Active]? = some Tryz.f38 := Tryz.func38
abbrev f_mark_Cycle_Begin : Nat := 39
theorem fun_mark_Cycle_Begin : Pr.funcs[f_mark_Cycle_Begin]? = some Tryz.f39 := Tryz.func39
abbrev f_mark_Cycle_Log : Nat := 40
theorem fun_mark_Cycle_Log : Pr.funcs[f_mark_Cycle_Log]? = some Tryz.f40 := Tryz.func40
abbrev f_mark_Cycle_Step : Nat := 41
theorem fun_mark_Cycle_Step : Pr.funcs[f_mark_Cycle_Step]? = some Tryz.f41 := Tryz.func41
abbrev f_mark_Cycle_Finish : Nat := 42
theorem fun_mark_Cycle_Finish : Pr.funcs[f_mark_Cycle_Finish]? = some Tryz.f42 := Tryz.func42
abbrev f_mark_Cycle_Live : Nat := 43
theorem fun_mark_Cycle_Live : Pr.funcs[f_mark_Cycle_Live]? = some Tryz.f43 := Tryz.func43
abbrev f_mark_New : Nat := 44
theorem fun_mark_New : Pr.funcs[f_mark_New]? = some Tryz.f44 := Tryz.func44
abbrev f_heap_Heap_Check : Nat := 45
theorem fun_heap_Heap_Check : Pr.funcs[f_heap_Heap_Check]? = some Tryz.f45 := Tryz.func45
abbrev f_heap_New : Nat := 46
theorem fun_heap_New : Pr.funcs[f_heap_New]? = some Tryz.f46 := Tryz.func46
abbrev f_gleanerlaw14_small : Nat := 47
theorem fun_gleanerlaw14_small : Pr.funcs[f_gleanerlaw14_small]? = some Tryz.f47 := Tryz.func47
abbrev f_region_Table_Bump : Nat := 48
theorem fun_region_Table_Bump : Pr.funcs[f_region_Table_Bump]? = some Tryz.f48 := Tryz.func48
abbrev f_parse_Make : Nat := 49
theorem fun_parse_Make : Pr.funcs[f_parse_Make]? = some Tryz.f49 := Tryz.func49
abbrev f_roots_Stack_Push : Nat := 50
theorem fun_roots_Stack_Push : Pr.funcs[f_roots_Stack_Push]? = some Tryz.f50 := Tryz.func50
abbrev f_heap_Heap_Shape : Nat := 51
theorem fun_heap_Heap_Shape : Pr.funcs[f_heap_Heap_Shape]? = some Tryz.f51 := Tryz.func51
abbrev f_gleanerref13_Same : Nat := 52
theorem fun_gleanerref13_Same : Pr.funcs[f_gleanerref13_Same]? = some Tryz.f52 := Tryz.func52
abbrev f_gleanerref02_New : Nat := 53
theorem fun_gleanerref02_New : Pr.funcs[f_gleanerref02_New]? = some Tryz.f53 := Tryz.func53
abbrev f_gleanerref02_Geom_Big : Nat := 54
theorem fun_gleanerref02_Geom_Big : Pr.funcs[f_gleanerref02_Geom_Big]? = some Tryz.f54 := Tryz.func54
abbrev f_gleanerref14_Thing_Size : Nat := 55
theorem fun_gleanerref14_Thing_Size : Pr.funcs[f_gleanerref14_Thing_Size]? = some Tryz.f55 := Tryz.func55
abbrev f_gleanerref14_refs : Nat := 56
theorem fun_gleanerref14_refs : Pr.funcs[f_gleanerref14_refs]? = some Tryz.f56 := Tryz.func56
abbrev f_gleanerlaw14_room : Nat := 57
theorem fun_gleanerlaw14_room : Pr.funcs[f_gleanerlaw14_room]? = some Tryz.f57 := Tryz.func57
abbrev f_offs_Table_Put : Nat := 58
theorem fun_offs_Table_Put : Pr.funcs[f_offs_Table_Put]? = some Tryz.f58 := Tryz.func58
abbrev f_arena_Arena_Store : Nat := 59
theorem fun_arena_Arena_Store : Pr.funcs[f_arena_Arena_Store]? = some Tryz.f59 := Tryz.func59
abbrev f_gleanerlaw14_Built_link : Nat := 60
theorem fun_gleanerlaw14_Built_link : Pr.funcs[f_gleanerlaw14_Built_link]? = some Tryz.f60 := Tryz.func60
abbrev f_gleanerlaw14_Built_Ref : Nat := 61
theorem fun_gleanerlaw14_Built_Ref : Pr.funcs[f_gleanerlaw14_Built_Ref]? = some Tryz.f61 := Tryz.func61
abbrev f_region_Table_at : Nat := 62
theorem fun_region_Table_at : Pr.funcs[f_region_Table_at]? = some Tryz.f62 := Tryz.func62
abbrev f_geom_log : Nat := 63
theorem fun_geom_log : Pr.funcs[f_geom_log]? = some Tryz.f63 := Tryz.func63
abbrev f_bits_Set_check : Nat := 64
theorem fun_bits_Set_check : Pr.funcs[f_bits_Set_check]? = some Tryz.f64 := Tryz.func64
abbrev f_region_Table_Release : Nat := 65
theorem fun_region_Table_Release : Pr.funcs[f_region_Table_Release]? = some Tryz.f65 := Tryz.func65
abbrev f_offs_Table_Drop : Nat := 66
theorem fun_offs_Table_Drop : Pr.funcs[f_offs_Table_Drop]? = some Tryz.f66 := Tryz.func66
abbrev f_remset_Sets_Clear : Nat := 67
theorem fun_remset_Sets_Clear : Pr.funcs[f_remset_Sets_Clear]? = some Tryz.f67 := Tryz.func67
abbrev f_remset_Sets_Scrub : Nat := 68
theorem fun_remset_Sets_Scrub : Pr.funcs[f_remset_Sets_Scrub]? = some Tryz.f68 := Tryz.func68
abbrev f_cards_Table_Clean : Nat := 69
theorem fun_cards_Table_Clean : Pr.funcs[f_cards_Table_Clean]? = some Tryz.f69 := Tryz.func69
abbrev f_bits_Set_Fill : Nat := 70
theorem fun_bits_Set_Fill : Pr.funcs[f_bits_Set_Fill]? = some Tryz.f70 := Tryz.func70
abbrev f_remset_Sets_region : Nat := 71
theorem fun_remset_Sets_region : Pr.funcs[f_remset_Sets_region]? = some Tryz.f71 := Tryz.func71
abbrev f_bits_Set_List : Nat := 72
theorem fun_bits_Set_List : Pr.funcs[f_bits_Set_List]? = some Tryz.f72 := Tryz.func72
abbrev f_slices_Sort___int_int_ : Nat := 73
theorem fun_slices_Sort___int_int_ : Pr.funcs[f_slices_Sort___int_int_]? = some Tryz.f73 := Tryz.func73
abbrev f_region_plain : Nat := 74
theorem fun_region_plain : Pr.funcs[f_region_plain]? = some Tryz.f74 := Tryz.func74
abbrev f_buffer_Buffer_Drop : Nat := 75
theorem fun_buffer_Buffer_Drop : Pr.funcs[f_buffer_Buffer_Drop]? = some Tryz.f75 := Tryz.func75
abbrev f_buffer_Buffer_Rest : Nat := 76
theorem fun_buffer_Buffer_Rest : Pr.funcs[f_buffer_Buffer_Rest]? = some Tryz.f76 := Tryz.func76
abbrev f_gleanerlaw15_small : Nat := 77
theorem fun_gleanerlaw15_small : Pr.funcs[f_gleanerlaw15_small]? = some Tryz.f77 := Tryz.func77
abbrev f_mutate_New : Nat := 78
theorem fun_mutate_New : Pr.funcs[f_mutate_New]? = some Tryz.f78 := Tryz.func78
abbrev f_mutate_Mutator_Idle : Nat := 79
theorem fun_mutate_Mutator_Idle : Pr.funcs[f_mutate_Mutator_Idle]? = some Tryz.f79 := Tryz.func79
abbrev f_mutate_Mutator_Start : Nat := 80
theorem fun_mutate_Mutator_Start : Pr.funcs[f_mutate_Mutator_Start]? = some Tryz.f80 := Tryz.func80
abbrev f_mutate_Mutator_Step : Nat := 81
theorem fun_mutate_Mutator_Step : Pr.funcs[f_mutate_Mutator_Step]? = some Tryz.f81 := Tryz.func81
abbrev f_roots_Stack_Len : Nat := 82
theorem fun_roots_Stack_Len : Pr.funcs[f_roots_Stack_Len]? = some Tryz.f82 := Tryz.func82
abbrev f_geom_New : Nat := 83
theorem fun_geom_New : Pr.funcs[f_geom_New]? = some Tryz.f83 := Tryz.func83
abbrev f_gleanerref13_New : Nat := 84
theorem fun_gleanerref13_New : Pr.funcs[f_gleanerref13_New]? = some Tryz.f84 := Tryz.func84
abbrev f_gleanerlaw15_Over : Nat := 85
theorem fun_gleanerlaw15_Over : Pr.funcs[f_gleanerlaw15_Over]? = some Tryz.f85 := Tryz.func85
abbrev f_mutate_Mutator_Fail : Nat := 86
theorem fun_mutate_Mutator_Fail : Pr.funcs[f_mutate_Mutator_Fail]? = some Tryz.f86 := Tryz.func86
abbrev f_gleanerref13_Graph_Do : Nat := 87
theorem fun_gleanerref13_Graph_Do : Pr.funcs[f_gleanerref13_Graph_Do]? = some Tryz.f87 := Tryz.func87
abbrev f_heap_Heap_objects : Nat := 88
theorem fun_heap_Heap_objects : Pr.funcs[f_heap_Heap_objects]? = some Tryz.f88 := Tryz.func88
abbrev f_slices_Contains___int_int_ : Nat := 89
theorem fun_slices_Contains___int_int_ : Pr.funcs[f_slices_Contains___int_int_]? = some Tryz.f89 := Tryz.func89
abbrev f_remset_Sets_Has : Nat := 90
theorem fun_remset_Sets_Has : Pr.funcs[f_remset_Sets_Has]? = some Tryz.f90 := Tryz.func90
abbrev f_slices_Concat___int_int_ : Nat := 91
theorem fun_slices_Concat___int_int_ : Pr.funcs[f_slices_Concat___int_int_]? = some Tryz.f91 := Tryz.func91
abbrev f_gleanerlaw17_plan : Nat := 92
theorem fun_gleanerlaw17_plan : Pr.funcs[f_gleanerlaw17_plan]? = some Tryz.f92 := Tryz.func92
abbrev f_parse_At : Nat := 93
theorem fun_parse_At : Pr.funcs[f_parse_At]? = some Tryz.f93 := Tryz.func93
abbrev f_mark_Cycle_Clean_1 : Nat := 94
theorem fun_mark_Cycle_Clean_1 : Pr.funcs[f_mark_Cycle_Clean_1]? = some Tryz.f94 := Tryz.func94
abbrev f_mark_Cycle_sweep : Nat := 95
theorem fun_mark_Cycle_sweep : Pr.funcs[f_mark_Cycle_sweep]? = some Tryz.f95 := Tryz.func95
abbrev f_region_Table_Tams : Nat := 96
theorem fun_region_Table_Tams : Pr.funcs[f_region_Table_Tams]? = some Tryz.f96 := Tryz.func96
abbrev f_geom_Geom_Span : Nat := 97
theorem fun_geom_Geom_Span : Pr.funcs[f_geom_Geom_Span]? = some Tryz.f97 := Tryz.func97
abbrev f_mark_Cycle_check : Nat := 98
theorem fun_mark_Cycle_check : Pr.funcs[f_mark_Cycle_check]? = some Tryz.f98 := Tryz.func98
abbrev f_heap_Heap_Row : Nat := 99
theorem fun_heap_Heap_Row : Pr.funcs[f_heap_Heap_Row]? = some Tryz.f99 := Tryz.func99
abbrev f_region_Table_Mark : Nat := 100
theorem fun_region_Table_Mark : Pr.funcs[f_region_Table_Mark]? = some Tryz.f100 := Tryz.func100
abbrev f_roots_Stack_List : Nat := 101
theorem fun_roots_Stack_List : Pr.funcs[f_roots_Stack_List]? = some Tryz.f101 := Tryz.func101
abbrev f_mark_Cycle_grey : Nat := 102
theorem fun_mark_Cycle_grey : Pr.funcs[f_mark_Cycle_grey]? = some Tryz.f102 := Tryz.func102
abbrev f_parse_Fields : Nat := 103
theorem fun_parse_Fields : Pr.funcs[f_parse_Fields]? = some Tryz.f103 := Tryz.func103
abbrev f_arena_Arena_Load : Nat := 104
theorem fun_arena_Arena_Load : Pr.funcs[f_arena_Arena_Load]? = some Tryz.f104 := Tryz.func104
abbrev f_mark_Cycle_step : Nat := 105
theorem fun_mark_Cycle_step : Pr.funcs[f_mark_Cycle_step]? = some Tryz.f105 := Tryz.func105
abbrev f_bits_Set_Next : Nat := 106
theorem fun_bits_Set_Next : Pr.funcs[f_bits_Set_Next]? = some Tryz.f106 := Tryz.func106
abbrev f_arena_New : Nat := 107
theorem fun_arena_New : Pr.funcs[f_arena_New]? = some Tryz.f107 := Tryz.func107
abbrev f_region_New : Nat := 108
theorem fun_region_New : Pr.funcs[f_region_New]? = some Tryz.f108 := Tryz.func108
abbrev f_offs_New : Nat := 109
theorem fun_offs_New : Pr.funcs[f_offs_New]? = some Tryz.f109 := Tryz.func109
abbrev f_cards_New : Nat := 110
theorem fun_cards_New : Pr.funcs[f_cards_New]? = some Tryz.f110 := Tryz.func110
abbrev f_queue_New : Nat := 111
theorem fun_queue_New : Pr.funcs[f_queue_New]? = some Tryz.f111 := Tryz.func111
abbrev f_remset_New : Nat := 112
theorem fun_remset_New : Pr.funcs[f_remset_New]? = some Tryz.f112 := Tryz.func112
abbrev f_bits_New : Nat := 113
theorem fun_bits_New : Pr.funcs[f_bits_New]? = some Tryz.f113 := Tryz.func113
abbrev f_roots_New : Nat := 114
theorem fun_roots_New : Pr.funcs[f_roots_New]? = some Tryz.f114 := Tryz.func114
abbrev f_head_Pack : Nat := 115
theorem fun_head_Pack : Pr.funcs[f_head_Pack]? = some Tryz.f115 := Tryz.func115
abbrev f_arena_Arena_Zero : Nat := 116
theorem fun_arena_Arena_Zero : Pr.funcs[f_arena_Arena_Zero]? = some Tryz.f116 := Tryz.func116
abbrev f_roots_Stack_Room : Nat := 117
theorem fun_roots_Stack_Room : Pr.funcs[f_roots_Stack_Room]? = some Tryz.f117 := Tryz.func117
abbrev f_heap_Heap_Shape_1 : Nat := 118
theorem fun_heap_Heap_Shape_1 : Pr.funcs[f_heap_Heap_Shape_1]? = some Tryz.f118 := Tryz.func118
abbrev f_gleanerref02_May : Nat := 119
theorem fun_gleanerref02_May : Pr.funcs[f_gleanerref02_May]? = some Tryz.f119 := Tryz.func119
abbrev f_gleanerref02_power : Nat := 120
theorem fun_gleanerref02_power : Pr.funcs[f_gleanerref02_power]? = some Tryz.f120 := Tryz.func120
abbrev f_region_Table_Run : Nat := 121
theorem fun_region_Table_Run : Pr.funcs[f_region_Table_Run]? = some Tryz.f121 := Tryz.func121
abbrev f_offs_Table_row : Nat := 122
theorem fun_offs_Table_row : Pr.funcs[f_offs_Table_row]? = some Tryz.f122 := Tryz.func122
abbrev f_offs_Table_cards : Nat := 123
theorem fun_offs_Table_cards : Pr.funcs[f_offs_Table_cards]? = some Tryz.f123 := Tryz.func123
abbrev f_offs_Table_Put_1 : Nat := 124
theorem fun_offs_Table_Put_1 : Pr.funcs[f_offs_Table_Put_1]? = some Tryz.f124 := Tryz.func124
abbrev f_arena_Arena_word : Nat := 125
theorem fun_arena_Arena_word : Pr.funcs[f_arena_Arena_word]? = some Tryz.f125 := Tryz.func125
abbrev f_gleanerlaw14_Built_Home : Nat := 126
theorem fun_gleanerlaw14_Built_Home : Pr.funcs[f_gleanerlaw14_Built_Home]? = some Tryz.f126 := Tryz.func126
abbrev f_remset_Sets_Add : Nat := 127
theorem fun_remset_Sets_Add : Pr.funcs[f_remset_Sets_Add]? = some Tryz.f127 := Tryz.func127
abbrev f_offs_Table_Drop_1 : Nat := 128
theorem fun_offs_Table_Drop_1 : Pr.funcs[f_offs_Table_Drop_1]? = some Tryz.f128 := Tryz.func128
abbrev f_remset_Sets_forget : Nat := 129
theorem fun_remset_Sets_forget : Pr.funcs[f_remset_Sets_forget]? = some Tryz.f129 := Tryz.func129
abbrev f_remset_Sets_Clear_1 : Nat := 130
theorem fun_remset_Sets_Clear_1 : Pr.funcs[f_remset_Sets_Clear_1]? = some Tryz.f130 := Tryz.func130
abbrev f_remset_Sets_Scrub_1 : Nat := 131
theorem fun_remset_Sets_Scrub_1 : Pr.funcs[f_remset_Sets_Scrub_1]? = some Tryz.f131 := Tryz.func131
abbrev f_bits_Set_Drop : Nat := 132
theorem fun_bits_Set_Drop : Pr.funcs[f_bits_Set_Drop]? = some Tryz.f132 := Tryz.func132
abbrev f_bits_mask : Nat := 133
theorem fun_bits_mask : Pr.funcs[f_bits_mask]? = some Tryz.f133 := Tryz.func133
abbrev f_slices_pdqsortOrdered_int_ : Nat := 134
theorem fun_slices_pdqsortOrdered_int_ : Pr.funcs[f_slices_pdqsortOrdered_int_]? = some Tryz.f134 := Tryz.func134
abbrev f_math_bits_Len : Nat := 135
theorem fun_math_bits_Len : Pr.funcs[f_math_bits_Len]? = some Tryz.f135 := Tryz.func135
abbrev f_mutate_Mutator_alloc : Nat := 136
theorem fun_mutate_Mutator_alloc : Pr.funcs[f_mutate_Mutator_alloc]? = some Tryz.f136 := Tryz.func136
abbrev f_mutate_Mutator_field : Nat := 137
theorem fun_mutate_Mutator_field : Pr.funcs[f_mutate_Mutator_field]? = some Tryz.f137 := Tryz.func137
abbrev f_mutate_Mutator_plain : Nat := 138
theorem fun_mutate_Mutator_plain : Pr.funcs[f_mutate_Mutator_plain]? = some Tryz.f138 := Tryz.func138
abbrev f_geom_may : Nat := 139
theorem fun_geom_may : Pr.funcs[f_geom_may]? = some Tryz.f139 := Tryz.func139
abbrev f_gleanerref12_New : Nat := 140
theorem fun_gleanerref12_New : Pr.funcs[f_gleanerref12_New]? = some Tryz.f140 := Tryz.func140
abbrev f_mutate_Mutator_answer : Nat := 141
theorem fun_mutate_Mutator_answer : Pr.funcs[f_mutate_Mutator_answer]? = some Tryz.f141 := Tryz.func141
abbrev f_gleanerref13_Graph_step : Nat := 142
theorem fun_gleanerref13_Graph_step : Pr.funcs[f_gleanerref13_Graph_step]? = some Tryz.f142 := Tryz.func142
abbrev f_heap_Heap_read : Nat := 143
theorem fun_heap_Heap_read : Pr.funcs[f_heap_Heap_read]? = some Tryz.f143 := Tryz.func143
abbrev f_heap_Heap_objects_1 : Nat := 144
theorem fun_heap_Heap_objects_1 : Pr.funcs[f_heap_Heap_objects_1]? = some Tryz.f144 := Tryz.func144
abbrev f_slices_ContainsFunc___api_Ref_api_Ref_ : Nat := 145
theorem fun_slices_ContainsFunc___api_Ref_api_Ref_ : Pr.funcs[f_slices_ContainsFunc___api_Ref_api_Ref_]? = some Tryz.f145 := Tryz.func145
abbrev f_heap_Heap_objects_1_1 : Nat := 146
theorem fun_heap_Heap_objects_1_1 : Pr.funcs[f_heap_Heap_objects_1_1]? = some Tryz.f146 := Tryz.func146
abbrev f_slices_Index___int_int_ : Nat := 147
theorem fun_slices_Index___int_int_ : Pr.funcs[f_slices_Index___int_int_]? = some Tryz.f147 := Tryz.func147
abbrev f_remset_Sets_key : Nat := 148
theorem fun_remset_Sets_key : Pr.funcs[f_remset_Sets_key]? = some Tryz.f148 := Tryz.func148
abbrev f_slices_Grow___int_int_ : Nat := 149
theorem fun_slices_Grow___int_int_ : Pr.funcs[f_slices_Grow___int_int_]? = some Tryz.f149 := Tryz.func149
abbrev f_head_Unpack : Nat := 150
theorem fun_head_Unpack : Pr.funcs[f_head_Unpack]? = some Tryz.f150 := Tryz.func150
abbrev f_mark_Cycle_sweep_1 : Nat := 151
theorem fun_mark_Cycle_sweep_1 : Pr.funcs[f_mark_Cycle_sweep_1]? = some Tryz.f151 := Tryz.func151
abbrev f_parse_Fill : Nat := 152
theorem fun_parse_Fill : Pr.funcs[f_parse_Fill]? = some Tryz.f152 := Tryz.func152
abbrev f_heap_Heap_whole : Nat := 153
theorem fun_heap_Heap_whole : Pr.funcs[f_heap_Heap_whole]? = some Tryz.f153 := Tryz.func153
abbrev f_parse_Starts : Nat := 154
theorem fun_parse_Starts : Pr.funcs[f_parse_Starts]? = some Tryz.f154 := Tryz.func154
abbrev f_heap_Heap_end : Nat := 155
theorem fun_heap_Heap_end : Pr.funcs[f_heap_Heap_end]? = some Tryz.f155 := Tryz.func155
abbrev f_slices_Clone___api_Ref_api_Ref_ : Nat := 156
theorem fun_slices_Clone___api_Ref_api_Ref_ : Pr.funcs[f_slices_Clone___api_Ref_api_Ref_]? = some Tryz.f156 := Tryz.func156
abbrev f_arena_Arena_Len : Nat := 157
theorem fun_arena_Arena_Len : Pr.funcs[f_arena_Arena_Len]? = some Tryz.f157 := Tryz.func157
abbrev f_mark_Cycle_visit : Nat := 158
theorem fun_mark_Cycle_visit : Pr.funcs[f_mark_Cycle_visit]? = some Tryz.f158 := Tryz.func158
abbrev f_math_bits_TrailingZeros64 : Nat := 159
theorem fun_math_bits_TrailingZeros64 : Pr.funcs[f_math_bits_TrailingZeros64]? = some Tryz.f159 := Tryz.func159
abbrev f_arena_Arena_row : Nat := 160
theorem fun_arena_Arena_row : Pr.funcs[f_arena_Arena_row]? = some Tryz.f160 := Tryz.func160
abbrev f_gleanerref02_in : Nat := 161
theorem fun_gleanerref02_in : Pr.funcs[f_gleanerref02_in]? = some Tryz.f161 := Tryz.func161
abbrev f_region_Table_hold : Nat := 162
theorem fun_region_Table_hold : Pr.funcs[f_region_Table_hold]? = some Tryz.f162 := Tryz.func162
abbrev f_remset_Sets_refine : Nat := 163
theorem fun_remset_Sets_refine : Pr.funcs[f_remset_Sets_refine]? = some Tryz.f163 := Tryz.func163
abbrev f_maps_DeleteFunc_map_remset_pair___int_remset_pair___int_ : Nat := 164
theorem fun_maps_DeleteFunc_map_remset_pair___int_remset_pair___int_ : Pr.funcs[f_maps_DeleteFunc_map_remset_pair___int_remset_pair___int_]? = some Tryz.f164 := Tryz.func164
abbrev f_remset_Sets_forget_1 : Nat := 165
theorem fun_remset_Sets_forget_1 : Pr.funcs[f_remset_Sets_forget_1]? = some Tryz.f165 := Tryz.func165
abbrev f_maps_DeleteFunc_map_remset_pair__bits_Set_remset_pair__bits_Set_ : Nat := 166
theorem fun_maps_DeleteFunc_map_remset_pair__bits_Set_remset_pair__bits_Set_ : Pr.funcs[f_maps_DeleteFunc_map_remset_pair__bits_Set_remset_pair__bits_Set_]? = some Tryz.f166 := Tryz.func166
abbrev f_remset_Sets_forget_2 : Nat := 167
theorem fun_remset_Sets_forget_2 : Pr.funcs[f_remset_Sets_forget_2]? = some Tryz.f167 := Tryz.func167
abbrev f_maps_DeleteFunc_map_remset_pair_bool_remset_pair_bool_ : Nat := 168
theorem fun_maps_DeleteFunc_map_remset_pair_bool_remset_pair_bool_ : Pr.funcs[f_maps_DeleteFunc_map_remset_pair_bool_remset_pair_bool_]? = some Tryz.f168 := Tryz.func168
abbrev f_remset_Sets_forget_3 : Nat := 169
theorem fun_remset_Sets_forget_3 : Pr.funcs[f_remset_Sets_forget_3]? = some Tryz.f169 := Tryz.func169
abbrev f_slices_insertionSortOrdered_int_ : Nat := 170
theorem fun_slices_insertionSortOrdered_int_ : Pr.funcs[f_slices_insertionSortOrdered_int_]? = some Tryz.f170 := Tryz.func170
abbrev f_slices_heapSortOrdered_int_ : Nat := 171
theorem fun_slices_heapSortOrdered_int_ : Pr.funcs[f_slices_heapSortOrdered_int_]? = some Tryz.f171 := Tryz.func171
abbrev f_slices_breakPatternsOrdered_int_ : Nat := 172
theorem fun_slices_breakPatternsOrdered_int_ : Pr.funcs[f_slices_breakPatternsOrdered_int_]? = some Tryz.f172 := Tryz.func172
abbrev f_slices_choosePivotOrdered_int_ : Nat := 173
theorem fun_slices_choosePivotOrdered_int_ : Pr.funcs[f_slices_choosePivotOrdered_int_]? = some Tryz.f173 := Tryz.func173
abbrev f_slices_reverseRangeOrdered_int_ : Nat := 174
theorem fun_slices_reverseRangeOrdered_int_ : Pr.funcs[f_slices_reverseRangeOrdered_int_]? = some Tryz.f174 := Tryz.func174
abbrev f_slices_partialInsertionSortOrdered_int_ : Nat := 175
theorem fun_slices_partialInsertionSortOrdered_int_ : Pr.funcs[f_slices_partialInsertionSortOrdered_int_]? = some Tryz.f175 := Tryz.func175
abbrev f_cmp_Less_int_ : Nat := 176
theorem fun_cmp_Less_int_ : Pr.funcs[f_cmp_Less_int_]? = some Tryz.f176 := Tryz.func176
abbrev f_slices_partitionEqualOrdered_int_ : Nat := 177
theorem fun_slices_partitionEqualOrdered_int_ : Pr.funcs[f_slices_partitionEqualOrdered_int_]? = some Tryz.f177 := Tryz.func177
abbrev f_slices_partitionOrdered_int_ : Nat := 178
theorem fun_slices_partitionOrdered_int_ : Pr.funcs[f_slices_partitionOrdered_int_]? = some Tryz.f178 := Tryz.func178
abbrev f_math_bits_Len32 : Nat := 179
theorem fun_math_bits_Len32 : Pr.funcs[f_math_bits_Len32]? = some Tryz.f179 := Tryz.func179
abbrev f_math_bits_Len64 : Nat := 180
theorem fun_math_bits_Len64 : Pr.funcs[f_math_bits_Len64]? = some Tryz.f180 := Tryz.func180
abbrev f_mutate_Mutator_size : Nat := 181
theorem fun_mutate_Mutator_size : Pr.funcs[f_mutate_Mutator_size]? = some Tryz.f181 := Tryz.func181
abbrev f_mutate_Mutator_place : Nat := 182
theorem fun_mutate_Mutator_place : Pr.funcs[f_mutate_Mutator_place]? = some Tryz.f182 := Tryz.func182
abbrev f_mutate_Mutator_on : Nat := 183
theorem fun_mutate_Mutator_on : Pr.funcs[f_mutate_Mutator_on]? = some Tryz.f183 := Tryz.func183
abbrev f_geom_Geom_Big : Nat := 184
theorem fun_geom_Geom_Big : Pr.funcs[f_geom_Geom_Big]? = some Tryz.f184 := Tryz.func184
abbrev f_mutate_Mutator_stack : Nat := 185
theorem fun_mutate_Mutator_stack : Pr.funcs[f_mutate_Mutator_stack]? = some Tryz.f185 := Tryz.func185
abbrev f_mutate_Mutator_find : Nat := 186
theorem fun_mutate_Mutator_find : Pr.funcs[f_mutate_Mutator_find]? = some Tryz.f186 := Tryz.func186
abbrev f_mutate_Mutator_note : Nat := 187
theorem fun_mutate_Mutator_note : Pr.funcs[f_mutate_Mutator_note]? = some Tryz.f187 := Tryz.func187
abbrev f_roots_Stack_At : Nat := 188
theorem fun_roots_Stack_At : Pr.funcs[f_roots_Stack_At]? = some Tryz.f188 := Tryz.func188
abbrev f_cards_Note : Nat := 189
theorem fun_cards_Note : Pr.funcs[f_cards_Note]? = some Tryz.f189 := Tryz.func189
abbrev f_roots_Stack_Pop : Nat := 190
theorem fun_roots_Stack_Pop : Pr.funcs[f_roots_Stack_Pop]? = some Tryz.f190 := Tryz.func190
abbrev f_gleanerref13_Graph_size : Nat := 191
theorem fun_gleanerref13_Graph_size : Pr.funcs[f_gleanerref13_Graph_size]? = some Tryz.f191 := Tryz.func191
abbrev f_gleanerref13_full : Nat := 192
theorem fun_gleanerref13_full : Pr.funcs[f_gleanerref13_full]? = some Tryz.f192 := Tryz.func192
abbrev f_gleanerref12_Stack_Push : Nat := 193
theorem fun_gleanerref12_Stack_Push : Pr.funcs[f_gleanerref12_Stack_Push]? = some Tryz.f193 := Tryz.func193
abbrev f_gleanerref13_Graph_object : Nat := 194
theorem fun_gleanerref13_Graph_object : Pr.funcs[f_gleanerref13_Graph_object]? = some Tryz.f194 := Tryz.func194
abbrev f_gleanerref12_Stack_At : Nat := 195
theorem fun_gleanerref12_Stack_At : Pr.funcs[f_gleanerref12_Stack_At]? = some Tryz.f195 := Tryz.func195
abbrev f_gleanerref12_Stack_Pop : Nat := 196
theorem fun_gleanerref12_Stack_Pop : Pr.funcs[f_gleanerref12_Stack_Pop]? = some Tryz.f196 := Tryz.func196
abbrev f_gleanerref13_Graph_asks : Nat := 197
theorem fun_gleanerref13_Graph_asks : Pr.funcs[f_gleanerref13_Graph_asks]? = some Tryz.f197 := Tryz.func197
abbrev f_slices_IndexFunc___api_Ref_api_Ref_ : Nat := 198
theorem fun_slices_IndexFunc___api_Ref_api_Ref_ : Pr.funcs[f_slices_IndexFunc___api_Ref_api_Ref_]? = some Tryz.f198 := Tryz.func198
abbrev f_head_part : Nat := 199
theorem fun_head_part : Pr.funcs[f_head_part]? = some Tryz.f199 := Tryz.func199
abbrev f_parse_bounds : Nat := 200
theorem fun_parse_bounds : Pr.funcs[f_parse_bounds]? = some Tryz.f200 := Tryz.func200
abbrev f_remset_Sets_refine_1 : Nat := 201
theorem fun_remset_Sets_refine_1 : Pr.funcs[f_remset_Sets_refine_1]? = some Tryz.f201 := Tryz.func201
abbrev f_bits_Set_Count : Nat := 202
theorem fun_bits_Set_Count : Pr.funcs[f_bits_Set_Count]? = some Tryz.f202 := Tryz.func202
abbrev f_slices_SortFunc___remset_pair_remset_pair_ : Nat := 203
theorem fun_slices_SortFunc___remset_pair_remset_pair_ : Pr.funcs[f_slices_SortFunc___remset_pair_remset_pair_]? = some Tryz.f203 := Tryz.func203
abbrev f_remset_Sets_refine_2 : Nat := 204
theorem fun_remset_Sets_refine_2 : Pr.funcs[f_remset_Sets_refine_2]? = some Tryz.f204 := Tryz.func204
abbrev f_slices_MaxFunc___remset_pair_remset_pair_ : Nat := 205
theorem fun_slices_MaxFunc___remset_pair_remset_pair_ : Pr.funcs[f_slices_MaxFunc___remset_pair_remset_pair_]? = some Tryz.f205 := Tryz.func205
abbrev f_remset_Sets_refine_3 : Nat := 206
theorem fun_remset_Sets_refine_3 : Pr.funcs[f_remset_Sets_refine_3]? = some Tryz.f206 := Tryz.func206
abbrev f_slices_siftDownOrdered_int_ : Nat := 207
theorem fun_slices_siftDownOrdered_int_ : Pr.funcs[f_slices_siftDownOrdered_int_]? = some Tryz.f207 := Tryz.func207
abbrev f_slices_nextPowerOfTwo : Nat := 208
theorem fun_slices_nextPowerOfTwo : Pr.funcs[f_slices_nextPowerOfTwo]? = some Tryz.f208 := Tryz.func208
abbrev f_slices_xorshift_Next : Nat := 209
theorem fun_slices_xorshift_Next : Pr.funcs[f_slices_xorshift_Next]? = some Tryz.f209 := Tryz.func209
abbrev f_slices_medianAdjacentOrdered_int_ : Nat := 210
theorem fun_slices_medianAdjacentOrdered_int_ : Pr.funcs[f_slices_medianAdjacentOrdered_int_]? = some Tryz.f210 := Tryz.func210
abbrev f_slices_medianOrdered_int_ : Nat := 211
theorem fun_slices_medianOrdered_int_ : Pr.funcs[f_slices_medianOrdered_int_]? = some Tryz.f211 := Tryz.func211
abbrev f_cmp_isNaN_int_ : Nat := 212
theorem fun_cmp_isNaN_int_ : Pr.funcs[f_cmp_isNaN_int_]? = some Tryz.f212 := Tryz.func212
abbrev f_buffer_Buffer_Take : Nat := 213
theorem fun_buffer_Buffer_Take : Pr.funcs[f_buffer_Buffer_Take]? = some Tryz.f213 := Tryz.func213
abbrev f_region_Table_List : Nat := 214
theorem fun_region_Table_List : Pr.funcs[f_region_Table_List]? = some Tryz.f214 := Tryz.func214
abbrev f_heap_Heap_Object : Nat := 215
theorem fun_heap_Heap_Object : Pr.funcs[f_heap_Heap_Object]? = some Tryz.f215 := Tryz.func215
abbrev f_queue_Queue_Push : Nat := 216
theorem fun_queue_Queue_Push : Pr.funcs[f_queue_Queue_Push]? = some Tryz.f216 := Tryz.func216
abbrev f_roots_Stack_slot : Nat := 217
theorem fun_roots_Stack_slot : Pr.funcs[f_roots_Stack_slot]? = some Tryz.f217 := Tryz.func217
abbrev f_geom_Geom_Cross : Nat := 218
theorem fun_geom_Geom_Cross : Pr.funcs[f_geom_Geom_Cross]? = some Tryz.f218 := Tryz.func218
abbrev f_math_bits_OnesCount64 : Nat := 219
theorem fun_math_bits_OnesCount64 : Pr.funcs[f_math_bits_OnesCount64]? = some Tryz.f219 := Tryz.func219
abbrev f_slices_pdqsortCmpFunc_remset_pair_ : Nat := 220
theorem fun_slices_pdqsortCmpFunc_remset_pair_ : Pr.funcs[f_slices_pdqsortCmpFunc_remset_pair_]? = some Tryz.f220 := Tryz.func220
abbrev f_slices_order2Ordered_int_ : Nat := 221
theorem fun_slices_order2Ordered_int_ : Pr.funcs[f_slices_order2Ordered_int_]? = some Tryz.f221 := Tryz.func221
abbrev f_slices_insertionSortCmpFunc_remset_pair_ : Nat := 222
theorem fun_slices_insertionSortCmpFunc_remset_pair_ : Pr.funcs[f_slices_insertionSortCmpFunc_remset_pair_]? = some Tryz.f222 := Tryz.func222
abbrev f_slices_heapSortCmpFunc_remset_pair_ : Nat := 223
theorem fun_slices_heapSortCmpFunc_remset_pair_ : Pr.funcs[f_slices_heapSortCmpFunc_remset_pair_]? = some Tryz.f223 := Tryz.func223
abbrev f_slices_breakPatternsCmpFunc_remset_pair_ : Nat := 224
theorem fun_slices_breakPatternsCmpFunc_remset_pair_ : Pr.funcs[f_slices_breakPatternsCmpFunc_remset_pair_]? = some Tryz.f224 := Tryz.func224
abbrev f_slices_choosePivotCmpFunc_remset_pair_ : Nat := 225
theorem fun_slices_choosePivotCmpFunc_remset_pair_ : Pr.funcs[f_slices_choosePivotCmpFunc_remset_pair_]? = some Tryz.f225 := Tryz.func225
abbrev f_slices_reverseRangeCmpFunc_remset_pair_ : Nat := 226
theorem fun_slices_reverseRangeCmpFunc_remset_pair_ : Pr.funcs[f_slices_reverseRangeCmpFunc_remset_pair_]? = some Tryz.f226 := Tryz.func226
abbrev f_slices_partialInsertionSortCmpFunc_remset_pair_ : Nat := 227
theorem fun_slices_partialInsertionSortCmpFunc_remset_pair_ : Pr.funcs[f_slices_partialInsertionSortCmpFunc_remset_pair_]? = some Tryz.f227 := Tryz.func227
abbrev f_slices_partitionEqualCmpFunc_remset_pair_ : Nat := 228
theorem fun_slices_partitionEqualCmpFunc_remset_pair_ : Pr.funcs[f_slices_partitionEqualCmpFunc_remset_pair_]? = some Tryz.f228 := Tryz.func228
abbrev f_slices_partitionCmpFunc_remset_pair_ : Nat := 229
theorem fun_slices_partitionCmpFunc_remset_pair_ : Pr.funcs[f_slices_partitionCmpFunc_remset_pair_]? = some Tryz.f229 := Tryz.func229
abbrev f_slices_siftDownCmpFunc_remset_pair_ : Nat := 230
theorem fun_slices_siftDownCmpFunc_remset_pair_ : Pr.funcs[f_slices_siftDownCmpFunc_remset_pair_]? = some Tryz.f230 := Tryz.func230
abbrev f_slices_medianAdjacentCmpFunc_remset_pair_ : Nat := 231
theorem fun_slices_medianAdjacentCmpFunc_remset_pair_ : Pr.funcs[f_slices_medianAdjacentCmpFunc_remset_pair_]? = some Tryz.f231 := Tryz.func231
abbrev f_slices_medianCmpFunc_remset_pair_ : Nat := 232
theorem fun_slices_medianCmpFunc_remset_pair_ : Pr.funcs[f_slices_medianCmpFunc_remset_pair_]? = some Tryz.f232 := Tryz.func232
abbrev f_slices_order2CmpFunc_remset_pair_ : Nat := 233
theorem fun_slices_order2CmpFunc_remset_pair_ : Pr.funcs[f_slices_order2CmpFunc_remset_pair_]? = some Tryz.f233 := Tryz.func233
abbrev f_gosem_cut_vars : Nat := 259
theorem fun_gosem_cut_vars : Pr.funcs[f_gosem_cut_vars]? = some Tryz.f259 := Tryz.func259
end Go.Proofs.YtdhbpklmkibmbaaGreatDoor
