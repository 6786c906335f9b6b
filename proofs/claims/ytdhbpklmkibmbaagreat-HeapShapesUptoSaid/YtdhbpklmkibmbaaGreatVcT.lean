/- The seat's own names and numbers, out of the translation's listing, by a small program. -/
import Derived.Test.YtdhbpklmkibmbaaGreatProg
import Derived.Test.YtdhbpklmkibmbaaGreatVcG
import Derived.KernelRfl
namespace Go.Proofs.YtdhbpklmkibmbaaGreat
open Go.Vc
noncomputable abbrev Pr : Program := Tryz.prog
noncomputable def T : Tab := Tab.mk [
  (3, ⟨.int .i64, 1, 8, [.int .i64 0]⟩),
  (4, ⟨.bool, 1, 1, [.bool false]⟩),
  (25, ⟨.int .i64, 1, 8, [.int .i64 0]⟩),
  (24, ⟨.slice 3, 1, 24, [.slice none 0 0]⟩),
  (33, ⟨.int .u64, 1, 8, [.int .u64 0]⟩),
  (23, ⟨.ptr 80, 1, 8, [.pointer none]⟩),
  (222, ⟨.struct [(3, 0), (3, 1)], 2, 16, [.int .i64 0, .int .i64 0]⟩),
  (311, ⟨.slice 222, 1, 24, [.slice none 0 0]⟩),
  (35, ⟨.slice 33, 1, 24, [.slice none 0 0]⟩),
  (34, ⟨.int .u64, 1, 8, [.int .u64 0]⟩),
  (69, ⟨.struct [(3, 0), (3, 1), (3, 2), (3, 3), (3, 4), (3, 5)], 6, 48, [.int .i64 0, .int .i64 0, .int .i64 0, .int .i64 0, .int .i64 0, .int .i64 0]⟩),
  (112, ⟨.slice 34, 1, 24, [.slice none 0 0]⟩),
  (131, ⟨.ptr 246, 1, 8, [.pointer none]⟩),
  (30, ⟨.struct [(28, 0), (3, 1), (3, 2), (3, 3), (3, 4)], 5, 40, [.int .i64 0, .int .i64 0, .int .i64 0, .int .i64 0, .int .i64 0]⟩),
  (208, ⟨.int .u64, 1, 8, [.int .u64 0]⟩),
  (80, ⟨.struct [(44, 0), (69, 14), (70, 20), (71, 21), (72, 22), (73, 23), (74, 24), (75, 25), (76, 26), (77, 27), (78, 28)], 29, 264, [.int .i64 0, .int .i64 0, .int .i64 0, .int .i64 0, .int .i64 0, .int .i64 0, .int .i64 0, .int .i64 0, .int .i64 0, .int .i64 0, .int .i64 0, .int .i64 0, .int .i64 0, .int .i64 0, .int .i64 0, .int .i64 0, .int .i64 0, .int .i64 0, .int .i64 0, .int .i64 0, .pointer none, .pointer none, .pointer none, .pointer none, .pointer none, .pointer none, .pointer none, .slice none 0 0, .slice none 0 0]⟩),
  (44, ⟨.struct [(3, 0), (3, 1), (3, 2), (3, 3), (3, 4), (3, 5), (3, 6), (3, 7), (3, 8), (3, 9), (3, 10), (3, 11), (3, 12), (3, 13)], 14, 112, List.replicate 14 (.int .i64 0)⟩),
  (137, ⟨.struct [(135, 0), (3, 1), (3, 2), (3, 3), (33, 4)], 5, 40, [.int .i64 0, .int .i64 0, .int .i64 0, .int .i64 0, .int .u64 0]⟩),
  (82, ⟨.int .i64, 1, 8, [.int .i64 0]⟩),
  (135, ⟨.int .i64, 1, 8, [.int .i64 0]⟩),
  (141, ⟨.struct [(139, 0), (4, 5), (4, 6), (4, 7), (24, 8)], 9, 72, [.int .i64 0, .int .i64 0, .int .i64 0, .int .u64 0, .bool false, .bool false, .bool false, .bool false, .slice none 0 0]⟩),
  (71, ⟨.ptr 198, 1, 8, [.pointer none]⟩),
  (100, ⟨.ptr 207, 1, 8, [.pointer none]⟩),
  (62, ⟨.struct [(23, 0), (24, 1)], 2, 32, [.pointer none, .slice none 0 0]⟩),
  (84, ⟨.struct [(82, 0), (24, 1), (35, 2)], 3, 56, [.int .i64 0, .slice none 0 0, .slice none 0 0]⟩),
  (246, ⟨.struct [(23, 0), (50, 1), (3, 2), (3, 3), (244, 4), (137, 5), (3, 10)], 11, 88, [.pointer none, .pointer none, .int .i64 0, .int .i64 0, .int .i64 0, .int .i64 0, .int .i64 0, .int .i64 0, .int .i64 0, .int .u64 0, .int .i64 0]⟩),
  (70, ⟨.ptr 256, 1, 8, [.pointer none]⟩),
  (75, ⟨.ptr 229, 1, 8, [.pointer none]⟩),
  (88, ⟨.ptr 175, 1, 8, [.pointer none]⟩),
  (59, ⟨.struct [(44, 0), (56, 14), (57, 15)], 16, 160, [.int .i64 0, .int .i64 0, .int .i64 0, .int .i64 0, .int .i64 0, .int .i64 0, .int .i64 0, .int .i64 0, .int .i64 0, .int .i64 0, .int .i64 0, .int .i64 0, .int .i64 0, .int .i64 0, .slice none 0 0, .slice none 0 0]⟩),
  (56, ⟨.slice 84, 1, 24, [.slice none 0 0]⟩),
  (52, ⟨.ptr 154, 1, 8, [.pointer none]⟩),
  (76, ⟨.ptr 242, 1, 8, [.pointer none]⟩),
  (72, ⟨.ptr 236, 1, 8, [.pointer none]⟩),
  (46, ⟨.ptr 54, 1, 8, [.pointer none]⟩),
  (57, ⟨.slice 24, 1, 24, [.slice none 0 0]⟩),
  (139, ⟨.struct [(3, 0), (3, 1), (25, 2), (33, 3), (4, 4)], 5, 40, [.int .i64 0, .int .i64 0, .int .i64 0, .int .u64 0, .bool false]⟩),
  (164, ⟨.ptr 169, 1, 8, [.pointer none]⟩),
  (175, ⟨.struct [(23, 0), (4, 1), (3, 2), (3, 3), (3, 4), (3, 5), (3, 6), (3, 7), (3, 8)], 9, 72, [.pointer none, .bool false, .int .i64 0, .int .i64 0, .int .i64 0, .int .i64 0, .int .i64 0, .int .i64 0, .int .i64 0]⟩),
  (28, ⟨.int .i64, 1, 8, [.int .i64 0]⟩),
  (244, ⟨.int .i64, 1, 8, [.int .i64 0]⟩),
  (299, ⟨.int .u64, 1, 8, [.int .u64 0]⟩),
  (74, ⟨.ptr 258, 1, 8, [.pointer none]⟩),
  (314, ⟨.func, 1, 8, [.nilFunc]⟩),
  (77, ⟨.slice 100, 1, 24, [.slice none 0 0]⟩),
  (152, ⟨.slice 164, 1, 24, [.slice none 0 0]⟩),
  (233, ⟨.int .u32, 1, 4, [.int .u32 0]⟩),
  (54, ⟨.struct [(23, 0), (50, 1), (51, 2), (45, 3), (24, 4), (52, 5), (24, 6), (3, 7), (4, 8)], 9, 136, [.pointer none, .pointer none, .slice none 0 0, .slice none 0 0, .slice none 0 0, .pointer none, .slice none 0 0, .int .i64 0, .bool false]⟩),
  (117, ⟨.struct [(3, 0), (112, 1), (35, 2)], 3, 56, [.int .i64 0, .slice none 0 0, .slice none 0 0]⟩),
  (286, ⟨.struct [(3, 0), (3, 1), (3, 2)], 3, 24, [.int .i64 0, .int .i64 0, .int .i64 0]⟩),
  (108, ⟨.map 34 117, 1, 8, [.map none]⟩),
  (154, ⟨.struct [(3, 0), (151, 1), (152, 2), (24, 3)], 4, 80, [.int .i64 0, .slice none 0 0, .slice none 0 0, .slice none 0 0]⟩),
  (156, ⟨.struct [(3, 0), (3, 1), (3, 2), (3, 3), (3, 4), (3, 5)], 6, 48, [.int .i64 0, .int .i64 0, .int .i64 0, .int .i64 0, .int .i64 0, .int .i64 0]⟩),
  (73, ⟨.ptr 240, 1, 8, [.pointer none]⟩),
  (229, ⟨.struct [(3, 0), (3, 1), (225, 2), (226, 3), (227, 4)], 5, 40, [.int .i64 0, .int .i64 0, .map none, .map none, .map none]⟩),
  (163, ⟨.struct [(112, 0), (35, 1)], 2, 48, [.slice none 0 0, .slice none 0 0]⟩),
  (196, ⟨.slice 200, 1, 24, [.slice none 0 0]⟩),
  (264, ⟨.int .i64, 1, 8, [.int .i64 0]⟩),
  (151, ⟨.slice 163, 1, 24, [.slice none 0 0]⟩),
  (45, ⟨.slice 148, 1, 24, [.slice none 0 0]⟩),
  (226, ⟨.map 222 76, 1, 8, [.map none]⟩),
  (200, ⟨.struct [(82, 0), (21, 1), (21, 2)], 3, 16, [.int .i64 0, .int .i32 0, .int .i32 0]⟩),
  (201, ⟨.ptr 200, 1, 8, [.pointer none]⟩),
  (219, ⟨.ptr 120, 1, 8, [.pointer none]⟩),
  (51, ⟨.slice 131, 1, 24, [.slice none 0 0]⟩),
  (120, ⟨.struct [(3, 0), (3, 1)], 2, 16, [.int .i64 0, .int .i64 0]⟩),
  (198, ⟨.struct [(3, 0), (196, 1)], 2, 32, [.int .i64 0, .slice none 0 0]⟩),
  (21, ⟨.int .i32, 1, 4, [.int .i32 0]⟩),
  (169, ⟨.struct [(3, 0), (112, 1)], 2, 32, [.int .i64 0, .slice none 0 0]⟩),
  (258, ⟨.struct [(3, 0), (24, 1), (57, 2)], 3, 56, [.int .i64 0, .slice none 0 0, .slice none 0 0]⟩),
  (170, ⟨.ptr 33, 1, 8, [.pointer none]⟩),
  (225, ⟨.map 222 24, 1, 8, [.map none]⟩),
  (234, ⟨.slice 233, 1, 24, [.slice none 0 0]⟩),
  (50, ⟨.ptr 130, 1, 8, [.pointer none]⟩),
  (148, ⟨.slice 137, 1, 24, [.slice none 0 0]⟩),
  (289, ⟨.ptr 163, 1, 8, [.pointer none]⟩),
  (207, ⟨.struct [(3, 0), (112, 1)], 2, 32, [.int .i64 0, .slice none 0 0]⟩),
  (227, ⟨.map 222 4, 1, 8, [.map none]⟩),
  (236, ⟨.struct [(3, 0), (3, 1), (234, 2)], 3, 40, [.int .i64 0, .int .i64 0, .slice none 0 0]⟩),
  (78, ⟨.slice 120, 1, 24, [.slice none 0 0]⟩),
  (242, ⟨.struct [(3, 0), (35, 1)], 2, 32, [.int .i64 0, .slice none 0 0]⟩),
  (111, ⟨.map 34 33, 1, 8, [.map none]⟩),
  (128, ⟨.slice 112, 1, 24, [.slice none 0 0]⟩),
  (256, ⟨.struct [(35, 0), (3, 1)], 2, 32, [.slice none 0 0, .int .i64 0]⟩),
  (130, ⟨.struct [(4, 0), (128, 1)], 2, 32, [.bool false, .slice none 0 0]⟩),
  (302, ⟨.ptr 3, 1, 8, [.pointer none]⟩),
  (238, ⟨.func, 1, 8, [.nilFunc]⟩),
  (5, ⟨.int .u8, 1, 1, [.int .u8 0]⟩),
  (308, ⟨.ptr 34, 1, 8, [.pointer none]⟩),
  (312, ⟨.func, 1, 8, [.nilFunc]⟩),
  (316, ⟨.ptr 299, 1, 8, [.pointer none]⟩),
  (240, ⟨.struct [(76, 0)], 1, 8, [.pointer none]⟩),
  (9, ⟨.str, 1, 16, [.string ByteArray.empty]⟩),
  (114, ⟨.func, 1, 8, [.nilFunc]⟩),
  (217, ⟨.func, 1, 8, [.nilFunc]⟩),
  (252, ⟨.ptr 139, 1, 8, [.pointer none]⟩),
  (20, ⟨.iface, 1, 16, [.nilIface]⟩),
  (177, ⟨.func, 1, 8, [.nilFunc]⟩),
  (216, ⟨.func, 1, 8, [.nilFunc]⟩),
  (287, ⟨.slice 286, 1, 24, [.slice none 0 0]⟩),
  (273, ⟨.func, 1, 8, [.nilFunc]⟩),
  (275, ⟨.func, 1, 8, [.nilFunc]⟩),
  (277, ⟨.func, 1, 8, [.nilFunc]⟩)]
  [3, 4, 5, 6, 7, 8, 9, 10, 11, 12, 13, 14, 15, 16, 17, 18, 19, 20, 21, 22, 23, 24, 25, 26, 27, 28, 29, 30, 31, 32, 33, 34, 35, 36, 37, 38, 39, 40, 41, 42, 43, 44, 45, 46, 47, 48, 49, 50, 51, 52, 53, 54, 55, 56, 57, 58, 59, 60, 61, 62, 63, 64, 65, 66, 67, 68, 69, 70, 71, 72, 73, 74, 75, 76, 77, 78, 79, 80, 81, 82, 83, 84, 85, 86, 87, 88, 89, 90, 91, 92, 93, 94, 95, 96, 97, 98, 99, 100, 101, 102, 103, 104, 105, 106, 107, 108, 109, 110, 111, 112, 113, 114, 115, 116, 117, 118, 119, 120, 121, 122, 123, 124, 125, 126, 127, 128, 129, 130, 131, 132, 133, 134, 135, 136, 137, 138, 139, 140, 141, 142, 143, 144, 145, 146, 147, 148, 149, 150, 151, 152, 153, 154, 155, 156, 157, 158, 159, 160, 161, 162, 163, 164, 165, 166, 167, 168, 169, 170, 171, 172, 173, 174, 175, 176, 177, 178, 179, 180, 181, 182, 183, 184, 185, 186, 187, 188, 189, 190, 191, 192, 193, 194, 195, 196, 197, 198, 199, 200, 201, 202, 203, 204, 205, 206, 207, 208, 209, 210, 211, 212, 213, 214, 215, 216, 217, 218, 219, 220, 221, 222, 223, 224, 225, 226]
theorem T_ok : T.Ok Pr := tab_of (by kernel_rfl)
theorem mixed : Pr.follows .mixedOrders = true := by kernel_rfl
abbrev t_int : Nat := 3
abbrev t_bool : Nat := 4
abbrev t_api_Errno : Nat := 25
abbrev t_s_int : Nat := 24
abbrev t_uint64 : Nat := 33
abbrev t_p_heap_Heap : Nat := 23
abbrev t_remset_pair : Nat := 222
abbrev t_s_remset_pair : Nat := 311
abbrev t_s_uint64 : Nat := 35
abbrev t_api_Ref : Nat := 34
abbrev t_geom_Geom : Nat := 69
abbrev t_s_api_Ref : Nat := 112
abbrev t_p_mutate_Mutator : Nat := 131
abbrev t_api_Header : Nat := 30
abbrev t_uint : Nat := 208
abbrev t_heap_Heap : Nat := 80
abbrev t_api_Config : Nat := 44
abbrev t_api_Op : Nat := 137
abbrev t_api_RegionState : Nat := 82
abbrev t_api_OpKind : Nat := 135
abbrev t_mutate_Result : Nat := 141
abbrev t_p_region_Table : Nat := 71
abbrev t_p_roots_Stack : Nat := 100
abbrev t_gleanerlaw14_Built : Nat := 62
abbrev t_gleanerref14_Thing : Nat := 84
abbrev t_mutate_Mutator : Nat := 246
abbrev t_p_arena_Arena : Nat := 70
abbrev t_p_remset_Sets : Nat := 75
abbrev t_p_refine_Worker : Nat := 88
abbrev t_gleanerref14_Plan : Nat := 59
abbrev t_s_gleanerref14_Thing : Nat := 56
abbrev t_p_gleanerref13_Graph : Nat := 52
abbrev t_p_bits_Set : Nat := 76
abbrev t_p_offs_Table : Nat := 72
abbrev t_p_gleanerlaw15_World : Nat := 46
abbrev t_s_s_int : Nat := 57
abbrev t_api_Answer : Nat := 139
abbrev t_p_gleanerref12_Stack : Nat := 164
abbrev t_refine_Worker : Nat := 175
abbrev t_api_HeadKind : Nat := 28
abbrev t_mutate_phase : Nat := 244
abbrev t_slices_xorshift : Nat := 299
abbrev t_p_queue_Queue : Nat := 74
abbrev t_s_p_roots_Stack : Nat := 77
abbrev t_s_p_gleanerref12_Stack : Nat := 152
abbrev t_uint32 : Nat := 233
abbrev t_gleanerlaw15_World : Nat := 54
abbrev t_heap_object : Nat := 117
abbrev t_geom_bound : Nat := 286
abbrev t_map_api_Ref_heap_object : Nat := 108
abbrev t_gleanerref13_Graph : Nat := 154
abbrev t_gleanerref02_Geom : Nat := 156
abbrev t_p_cards_Table : Nat := 73
abbrev t_remset_Sets : Nat := 229
abbrev t_gleanerref13_Object : Nat := 163
abbrev t_s_region_one : Nat := 196
abbrev t_slices_sortedHint : Nat := 264
abbrev t_s_gleanerref13_Object : Nat := 151
abbrev t_s_s_api_Op : Nat := 45
abbrev t_map_remset_pair_p_bits_Set : Nat := 226
abbrev t_region_one : Nat := 200
abbrev t_p_region_one : Nat := 201
abbrev t_p_buffer_Buffer : Nat := 219
abbrev t_s_p_mutate_Mutator : Nat := 51
abbrev t_buffer_Buffer : Nat := 120
abbrev t_region_Table : Nat := 198
abbrev t_int32 : Nat := 21
abbrev t_gleanerref12_Stack : Nat := 169
abbrev t_queue_Queue : Nat := 258
abbrev t_p_uint64 : Nat := 170
abbrev t_map_remset_pair_s_int : Nat := 225
abbrev t_s_uint32 : Nat := 234
abbrev t_p_mutate_Shared : Nat := 50
abbrev t_s_api_Op : Nat := 148
abbrev t_p_gleanerref13_Object : Nat := 289
abbrev t_roots_Stack : Nat := 207
abbrev t_map_remset_pair_bool : Nat := 227
abbrev t_offs_Table : Nat := 236
abbrev t_s_buffer_Buffer : Nat := 78
abbrev t_bits_Set : Nat := 242
abbrev t_map_api_Ref_uint64 : Nat := 111
abbrev t_s_s_api_Ref : Nat := 128
abbrev t_arena_Arena : Nat := 256
abbrev t_mutate_Shared : Nat := 130
abbrev t_p_int : Nat := 302
abbrev t_uint8 : Nat := 5
abbrev t_p_api_Ref : Nat := 308
abbrev t_p_slices_xorshift : Nat := 316
abbrev t_cards_Table : Nat := 240
abbrev t_string : Nat := 9
abbrev t_p_api_Answer : Nat := 252
abbrev t_interface___ : Nat := 20
abbrev t_s_geom_bound : Nat := 287
theorem zv_bool : ∀ w, (zeroValue 4).run Pr w = .ok (.bool false) w := @Tryz.zeroValue4
theorem zv_s_int : ∀ w, (zeroValue 24).run Pr w = .ok (.slice none 0 0) w := @Tryz.zeroValue24
theorem zv_uint64 : ∀ w, (zeroValue 33).run Pr w = .ok (.int .u64 0) w := @Tryz.zeroValue33
theorem zv_p_bits_Set : ∀ w, (zeroValue 76).run Pr w = .ok (.pointer none) w := @Tryz.zeroValue76
theorem zv_heap_object : ∀ w, (zeroValue 117).run Pr w = .ok (.agg #[.int .i64 0, .slice none 0 0, .slice none 0 0]) w := @Tryz.zeroValue117
abbrev f_gleanerlaw14_HeapNil : Nat := 3
theorem fun_gleanerlaw14_HeapNil : Pr.funcs[f_gleanerlaw14_HeapNil]? = some Tryz.f3 := Tryz.func3
abbrev f_gleanerlaw15_MutateAnswers : Nat := 4
theorem fun_gleanerlaw15_MutateAnswers : Pr.funcs[f_gleanerlaw15_MutateAnswers]? = some Tryz.f4 := Tryz.func4
abbrev f_gleanerlaw14_HeapShapes : Nat := 5
theorem fun_gleanerlaw14_HeapShapes : Pr.funcs[f_gleanerlaw14_HeapShapes]? = some Tryz.f5 := Tryz.func5
abbrev f_gleanerlaw14_HeapBroken : Nat := 6
theorem fun_gleanerlaw14_HeapBroken : Pr.funcs[f_gleanerlaw14_HeapBroken]? = some Tryz.f6 := Tryz.func6
abbrev f_gleanerlaw16_RefineNil : Nat := 7
theorem fun_gleanerlaw16_RefineNil : Pr.funcs[f_gleanerlaw16_RefineNil]? = some Tryz.f7 := Tryz.func7
abbrev f_gleanerlaw14_awake : Nat := 8
theorem fun_gleanerlaw14_awake : Pr.funcs[f_gleanerlaw14_awake]? = some Tryz.f8 := Tryz.func8
abbrev f_heap_Heap_Row : Nat := 9
theorem fun_heap_Heap_Row : Pr.funcs[f_heap_Heap_Row]? = some Tryz.f9 := Tryz.func9
abbrev f_heap_Heap_Object : Nat := 10
theorem fun_heap_Heap_Object : Pr.funcs[f_heap_Heap_Object]? = some Tryz.f10 := Tryz.func10
abbrev f_heap_Heap_Shape : Nat := 11
theorem fun_heap_Heap_Shape : Pr.funcs[f_heap_Heap_Shape]? = some Tryz.f11 := Tryz.func11
abbrev f_heap_Heap_Retire : Nat := 12
theorem fun_heap_Heap_Retire : Pr.funcs[f_heap_Heap_Retire]? = some Tryz.f12 := Tryz.func12
abbrev f_heap_Heap_Check : Nat := 13
theorem fun_heap_Heap_Check : Pr.funcs[f_heap_Heap_Check]? = some Tryz.f13 := Tryz.func13
abbrev f_heap_Heap_Lost : Nat := 14
theorem fun_heap_Heap_Lost : Pr.funcs[f_heap_Heap_Lost]? = some Tryz.f14 := Tryz.func14
abbrev f_heap_Heap_Free : Nat := 15
theorem fun_heap_Heap_Free : Pr.funcs[f_heap_Heap_Free]? = some Tryz.f15 := Tryz.func15
abbrev f_gleanerref01_Same : Nat := 16
theorem fun_gleanerref01_Same : Pr.funcs[f_gleanerref01_Same]? = some Tryz.f16 := Tryz.func16
abbrev f_gleanerlaw15_awake : Nat := 17
theorem fun_gleanerlaw15_awake : Pr.funcs[f_gleanerlaw15_awake]? = some Tryz.f17 := Tryz.func17
abbrev f_gleanerlaw15_Begin : Nat := 18
theorem fun_gleanerlaw15_Begin : Pr.funcs[f_gleanerlaw15_Begin]? = some Tryz.f18 := Tryz.func18
abbrev f_gleanerlaw15_World_Step : Nat := 19
theorem fun_gleanerlaw15_World_Step : Pr.funcs[f_gleanerlaw15_World_Step]? = some Tryz.f19 := Tryz.func19
abbrev f_gleanerlaw15_pick : Nat := 20
theorem fun_gleanerlaw15_pick : Pr.funcs[f_gleanerlaw15_pick]? = some Tryz.f20 := Tryz.func20
abbrev f_gleanerlaw15_World_Rest : Nat := 21
theorem fun_gleanerlaw15_World_Rest : Pr.funcs[f_gleanerlaw15_World_Rest]? = some Tryz.f21 := Tryz.func21
abbrev f_gleanerlaw15_World_Like : Nat := 22
theorem fun_gleanerlaw15_World_Like : Pr.funcs[f_gleanerlaw15_World_Like]? = some Tryz.f22 := Tryz.func22
abbrev f_gleanerlaw15_World_All : Nat := 23
theorem fun_gleanerlaw15_World_All : Pr.funcs[f_gleanerlaw15_World_All]? = some Tryz.f23 := Tryz.func23
abbrev f_gleanerref14_Right : Nat := 24
theorem fun_gleanerref14_Right : Pr.funcs[f_gleanerref14_Right]? = some Tryz.f24 := Tryz.func24
abbrev f_gleanerlaw14_Build : Nat := 25
theorem fun_gleanerlaw14_Build : Pr.funcs[f_gleanerlaw14_Build]? = some Tryz.f25 := Tryz.func25
abbrev f_gleanerref13_Same : Nat := 26
theorem fun_gleanerref13_Same : Pr.funcs[f_gleanerref13_Same]? = some Tryz.f26 := Tryz.func26
abbrev f_gleanerref14_Graph : Nat := 27
theorem fun_gleanerref14_Graph : Pr.funcs[f_gleanerref14_Graph]? = some Tryz.f27 := Tryz.func27
abbrev f_gleanerref13_Graph_Shape : Nat := 28
theorem fun_gleanerref13_Graph_Shape : Pr.funcs[f_gleanerref13_Graph_Shape]? = some Tryz.f28 := Tryz.func28
abbrev f_gleanerlaw14_Built_Ref : Nat := 29
theorem fun_gleanerlaw14_Built_Ref : Pr.funcs[f_gleanerlaw14_Built_Ref]? = some Tryz.f29 := Tryz.func29
abbrev f_gleanerref14_Thing_Size : Nat := 30
theorem fun_gleanerref14_Thing_Size : Pr.funcs[f_gleanerref14_Thing_Size]? = some Tryz.f30 := Tryz.func30
abbrev f_arena_Arena_Store : Nat := 31
theorem fun_arena_Arena_Store : Pr.funcs[f_arena_Arena_Store]? = some Tryz.f31 := Tryz.func31
abbrev f_gleanerlaw16_awake : Nat := 32
theorem fun_gleanerlaw16_awake : Pr.funcs[f_gleanerlaw16_awake]? = some Tryz.f32 := Tryz.func32
abbrev f_refine_New : Nat := 33
theorem fun_refine_New : Pr.funcs[f_refine_New]? = some Tryz.f33 := Tryz.func33
abbrev f_refine_Worker_Busy : Nat := 34
theorem fun_refine_Worker_Busy : Pr.funcs[f_refine_Worker_Busy]? = some Tryz.f34 := Tryz.func34
abbrev f_refine_Worker_Step : Nat := 35
theorem fun_refine_Worker_Step : Pr.funcs[f_refine_Worker_Step]? = some Tryz.f35 := Tryz.func35
abbrev f_refine_Worker_Stop : Nat := 36
theorem fun_refine_Worker_Stop : Pr.funcs[f_refine_Worker_Stop]? = some Tryz.f36 := Tryz.func36
abbrev f_refine_Drain : Nat := 37
theorem fun_refine_Drain : Pr.funcs[f_refine_Drain]? = some Tryz.f37 := Tryz.func37
abbrev f_refine_Card : Nat := 38
theorem fun_refine_Card : Pr.funcs[f_refine_Card]? = some Tryz.f38 := Tryz.func38
abbrev f_heap_New : Nat := 39
theorem fun_heap_New : Pr.funcs[f_heap_New]? = some Tryz.f39 := Tryz.func39
abbrev f_gleanerlaw14_small : Nat := 40
theorem fun_gleanerlaw14_small : Pr.funcs[f_gleanerlaw14_small]? = some Tryz.f40 := Tryz.func40
abbrev f_region_Table_Claim : Nat := 41
theorem fun_region_Table_Claim : Pr.funcs[f_region_Table_Claim]? = some Tryz.f41 := Tryz.func41
abbrev f_region_Table_Bump : Nat := 42
theorem fun_region_Table_Bump : Pr.funcs[f_region_Table_Bump]? = some Tryz.f42 := Tryz.func42
abbrev f_parse_Make : Nat := 43
theorem fun_parse_Make : Pr.funcs[f_parse_Make]? = some Tryz.f43 := Tryz.func43
abbrev f_roots_Stack_Push : Nat := 44
theorem fun_roots_Stack_Push : Pr.funcs[f_roots_Stack_Push]? = some Tryz.f44 := Tryz.func44
abbrev f_geom_Geom_Base : Nat := 45
theorem fun_geom_Geom_Base : Pr.funcs[f_geom_Geom_Base]? = some Tryz.f45 := Tryz.func45
abbrev f_region_Table_State : Nat := 46
theorem fun_region_Table_State : Pr.funcs[f_region_Table_State]? = some Tryz.f46 := Tryz.func46
abbrev f_parse_At : Nat := 47
theorem fun_parse_At : Pr.funcs[f_parse_At]? = some Tryz.f47 := Tryz.func47
abbrev f_heap_Heap_whole : Nat := 48
theorem fun_heap_Heap_whole : Pr.funcs[f_heap_Heap_whole]? = some Tryz.f48 := Tryz.func48
abbrev f_parse_Starts : Nat := 49
theorem fun_parse_Starts : Pr.funcs[f_parse_Starts]? = some Tryz.f49 := Tryz.func49
abbrev f_heap_Heap_end : Nat := 50
theorem fun_heap_Heap_end : Pr.funcs[f_heap_Heap_end]? = some Tryz.f50 := Tryz.func50
abbrev f_heap_Heap_objects : Nat := 51
theorem fun_heap_Heap_objects : Pr.funcs[f_heap_Heap_objects]? = some Tryz.f51 := Tryz.func51
abbrev f_heap_Heap_Shape_1 : Nat := 52
theorem fun_heap_Heap_Shape_1 : Pr.funcs[f_heap_Heap_Shape_1]? = some Tryz.f52 := Tryz.func52
abbrev f_roots_Stack_List : Nat := 53
theorem fun_roots_Stack_List : Pr.funcs[f_roots_Stack_List]? = some Tryz.f53 := Tryz.func53
abbrev f_buffer_Buffer_Drop : Nat := 54
theorem fun_buffer_Buffer_Drop : Pr.funcs[f_buffer_Buffer_Drop]? = some Tryz.f54 := Tryz.func54
abbrev f_region_Table_SetTop : Nat := 55
theorem fun_region_Table_SetTop : Pr.funcs[f_region_Table_SetTop]? = some Tryz.f55 := Tryz.func55
abbrev f_geom_Geom_Region : Nat := 56
theorem fun_geom_Geom_Region : Pr.funcs[f_geom_Geom_Region]? = some Tryz.f56 := Tryz.func56
abbrev f_slices_Contains___int_int_ : Nat := 57
theorem fun_slices_Contains___int_int_ : Pr.funcs[f_slices_Contains___int_int_]? = some Tryz.f57 := Tryz.func57
abbrev f_remset_Sets_Has : Nat := 58
theorem fun_remset_Sets_Has : Pr.funcs[f_remset_Sets_Has]? = some Tryz.f58 := Tryz.func58
abbrev f_geom_Geom_Card : Nat := 59
theorem fun_geom_Geom_Card : Pr.funcs[f_geom_Geom_Card]? = some Tryz.f59 := Tryz.func59
abbrev f_slices_Sort___int_int_ : Nat := 60
theorem fun_slices_Sort___int_int_ : Pr.funcs[f_slices_Sort___int_int_]? = some Tryz.f60 := Tryz.func60
abbrev f_region_Table_Release : Nat := 61
theorem fun_region_Table_Release : Pr.funcs[f_region_Table_Release]? = some Tryz.f61 := Tryz.func61
abbrev f_offs_Table_Drop : Nat := 62
theorem fun_offs_Table_Drop : Pr.funcs[f_offs_Table_Drop]? = some Tryz.f62 := Tryz.func62
abbrev f_remset_Sets_Clear : Nat := 63
theorem fun_remset_Sets_Clear : Pr.funcs[f_remset_Sets_Clear]? = some Tryz.f63 := Tryz.func63
abbrev f_remset_Sets_Scrub : Nat := 64
theorem fun_remset_Sets_Scrub : Pr.funcs[f_remset_Sets_Scrub]? = some Tryz.f64 := Tryz.func64
abbrev f_cards_Table_Clean : Nat := 65
theorem fun_cards_Table_Clean : Pr.funcs[f_cards_Table_Clean]? = some Tryz.f65 := Tryz.func65
abbrev f_bits_Set_Fill : Nat := 66
theorem fun_bits_Set_Fill : Pr.funcs[f_bits_Set_Fill]? = some Tryz.f66 := Tryz.func66
abbrev f_gleanerlaw15_small : Nat := 67
theorem fun_gleanerlaw15_small : Pr.funcs[f_gleanerlaw15_small]? = some Tryz.f67 := Tryz.func67
abbrev f_mutate_New : Nat := 68
theorem fun_mutate_New : Pr.funcs[f_mutate_New]? = some Tryz.f68 := Tryz.func68
abbrev f_mutate_Mutator_Idle : Nat := 69
theorem fun_mutate_Mutator_Idle : Pr.funcs[f_mutate_Mutator_Idle]? = some Tryz.f69 := Tryz.func69
abbrev f_mutate_Mutator_Start : Nat := 70
theorem fun_mutate_Mutator_Start : Pr.funcs[f_mutate_Mutator_Start]? = some Tryz.f70 := Tryz.func70
abbrev f_mutate_Mutator_Step : Nat := 71
theorem fun_mutate_Mutator_Step : Pr.funcs[f_mutate_Mutator_Step]? = some Tryz.f71 := Tryz.func71
abbrev f_roots_Stack_Len : Nat := 72
theorem fun_roots_Stack_Len : Pr.funcs[f_roots_Stack_Len]? = some Tryz.f72 := Tryz.func72
abbrev f_geom_New : Nat := 73
theorem fun_geom_New : Pr.funcs[f_geom_New]? = some Tryz.f73 := Tryz.func73
abbrev f_gleanerref13_New : Nat := 74
theorem fun_gleanerref13_New : Pr.funcs[f_gleanerref13_New]? = some Tryz.f74 := Tryz.func74
abbrev f_gleanerlaw15_Over : Nat := 75
theorem fun_gleanerlaw15_Over : Pr.funcs[f_gleanerlaw15_Over]? = some Tryz.f75 := Tryz.func75
abbrev f_mutate_Mutator_Fail : Nat := 76
theorem fun_mutate_Mutator_Fail : Pr.funcs[f_mutate_Mutator_Fail]? = some Tryz.f76 := Tryz.func76
abbrev f_gleanerref13_Graph_Do : Nat := 77
theorem fun_gleanerref13_Graph_Do : Pr.funcs[f_gleanerref13_Graph_Do]? = some Tryz.f77 := Tryz.func77
abbrev f_gleanerref02_New : Nat := 78
theorem fun_gleanerref02_New : Pr.funcs[f_gleanerref02_New]? = some Tryz.f78 := Tryz.func78
abbrev f_gleanerref02_Geom_Big : Nat := 79
theorem fun_gleanerref02_Geom_Big : Pr.funcs[f_gleanerref02_Geom_Big]? = some Tryz.f79 := Tryz.func79
abbrev f_gleanerref14_refs : Nat := 80
theorem fun_gleanerref14_refs : Pr.funcs[f_gleanerref14_refs]? = some Tryz.f80 := Tryz.func80
abbrev f_gleanerlaw14_room : Nat := 81
theorem fun_gleanerlaw14_room : Pr.funcs[f_gleanerlaw14_room]? = some Tryz.f81 := Tryz.func81
abbrev f_offs_Table_Put : Nat := 82
theorem fun_offs_Table_Put : Pr.funcs[f_offs_Table_Put]? = some Tryz.f82 := Tryz.func82
abbrev f_gleanerlaw14_Built_link : Nat := 83
theorem fun_gleanerlaw14_Built_link : Pr.funcs[f_gleanerlaw14_Built_link]? = some Tryz.f83 := Tryz.func83
abbrev f_gleanerref12_Stack_Push : Nat := 84
theorem fun_gleanerref12_Stack_Push : Pr.funcs[f_gleanerref12_Stack_Push]? = some Tryz.f84 := Tryz.func84
abbrev f_gleanerref13_Graph_order : Nat := 85
theorem fun_gleanerref13_Graph_order : Pr.funcs[f_gleanerref13_Graph_order]? = some Tryz.f85 := Tryz.func85
abbrev f_arena_Arena_word : Nat := 86
theorem fun_arena_Arena_word : Pr.funcs[f_arena_Arena_word]? = some Tryz.f86 := Tryz.func86
abbrev f_gleanerlaw16_plan : Nat := 87
theorem fun_gleanerlaw16_plan : Pr.funcs[f_gleanerlaw16_plan]? = some Tryz.f87 := Tryz.func87
abbrev f_cards_Table_Dirty : Nat := 88
theorem fun_cards_Table_Dirty : Pr.funcs[f_cards_Table_Dirty]? = some Tryz.f88 := Tryz.func88
abbrev f_cards_Table_Is : Nat := 89
theorem fun_cards_Table_Is : Pr.funcs[f_cards_Table_Is]? = some Tryz.f89 := Tryz.func89
abbrev f_refine_Worker_next : Nat := 90
theorem fun_refine_Worker_next : Pr.funcs[f_refine_Worker_next]? = some Tryz.f90 := Tryz.func90
abbrev f_queue_Queue_Pop : Nat := 91
theorem fun_queue_Queue_Pop : Pr.funcs[f_queue_Queue_Pop]? = some Tryz.f91 := Tryz.func91
abbrev f_refine_Worker_begin : Nat := 92
theorem fun_refine_Worker_begin : Pr.funcs[f_refine_Worker_begin]? = some Tryz.f92 := Tryz.func92
abbrev f_queue_Queue_Drain : Nat := 93
theorem fun_queue_Queue_Drain : Pr.funcs[f_queue_Queue_Drain]? = some Tryz.f93 := Tryz.func93
abbrev f_geom_Geom_First : Nat := 94
theorem fun_geom_Geom_First : Pr.funcs[f_geom_Geom_First]? = some Tryz.f94 := Tryz.func94
abbrev f_arena_New : Nat := 95
theorem fun_arena_New : Pr.funcs[f_arena_New]? = some Tryz.f95 := Tryz.func95
abbrev f_region_New : Nat := 96
theorem fun_region_New : Pr.funcs[f_region_New]? = some Tryz.f96 := Tryz.func96
abbrev f_offs_New : Nat := 97
theorem fun_offs_New : Pr.funcs[f_offs_New]? = some Tryz.f97 := Tryz.func97
abbrev f_cards_New : Nat := 98
theorem fun_cards_New : Pr.funcs[f_cards_New]? = some Tryz.f98 := Tryz.func98
abbrev f_queue_New : Nat := 99
theorem fun_queue_New : Pr.funcs[f_queue_New]? = some Tryz.f99 := Tryz.func99
abbrev f_remset_New : Nat := 100
theorem fun_remset_New : Pr.funcs[f_remset_New]? = some Tryz.f100 := Tryz.func100
abbrev f_bits_New : Nat := 101
theorem fun_bits_New : Pr.funcs[f_bits_New]? = some Tryz.f101 := Tryz.func101
abbrev f_roots_New : Nat := 102
theorem fun_roots_New : Pr.funcs[f_roots_New]? = some Tryz.f102 := Tryz.func102
abbrev f_region_plain : Nat := 103
theorem fun_region_plain : Pr.funcs[f_region_plain]? = some Tryz.f103 := Tryz.func103
abbrev f_region_Table_at : Nat := 104
theorem fun_region_Table_at : Pr.funcs[f_region_Table_at]? = some Tryz.f104 := Tryz.func104
abbrev f_region_Table_Top : Nat := 105
theorem fun_region_Table_Top : Pr.funcs[f_region_Table_Top]? = some Tryz.f105 := Tryz.func105
abbrev f_head_Pack : Nat := 106
theorem fun_head_Pack : Pr.funcs[f_head_Pack]? = some Tryz.f106 := Tryz.func106
abbrev f_arena_Arena_Zero : Nat := 107
theorem fun_arena_Arena_Zero : Pr.funcs[f_arena_Arena_Zero]? = some Tryz.f107 := Tryz.func107
abbrev f_roots_Stack_Room : Nat := 108
theorem fun_roots_Stack_Room : Pr.funcs[f_roots_Stack_Room]? = some Tryz.f108 := Tryz.func108
abbrev f_geom_log : Nat := 109
theorem fun_geom_log : Pr.funcs[f_geom_log]? = some Tryz.f109 := Tryz.func109
abbrev f_arena_Arena_Load : Nat := 110
theorem fun_arena_Arena_Load : Pr.funcs[f_arena_Arena_Load]? = some Tryz.f110 := Tryz.func110
abbrev f_head_Unpack : Nat := 111
theorem fun_head_Unpack : Pr.funcs[f_head_Unpack]? = some Tryz.f111 := Tryz.func111
abbrev f_geom_Geom_Span : Nat := 112
theorem fun_geom_Geom_Span : Pr.funcs[f_geom_Geom_Span]? = some Tryz.f112 := Tryz.func112
abbrev f_parse_bounds : Nat := 113
theorem fun_parse_bounds : Pr.funcs[f_parse_bounds]? = some Tryz.f113 := Tryz.func113
abbrev f_buffer_Buffer_Rest : Nat := 114
theorem fun_buffer_Buffer_Rest : Pr.funcs[f_buffer_Buffer_Rest]? = some Tryz.f114 := Tryz.func114
abbrev f_heap_Heap_read : Nat := 115
theorem fun_heap_Heap_read : Pr.funcs[f_heap_Heap_read]? = some Tryz.f115 := Tryz.func115
abbrev f_heap_Heap_objects_1 : Nat := 116
theorem fun_heap_Heap_objects_1 : Pr.funcs[f_heap_Heap_objects_1]? = some Tryz.f116 := Tryz.func116
abbrev f_slices_ContainsFunc___api_Ref_api_Ref_ : Nat := 117
theorem fun_slices_ContainsFunc___api_Ref_api_Ref_ : Pr.funcs[f_slices_ContainsFunc___api_Ref_api_Ref_]? = some Tryz.f117 := Tryz.func117
abbrev f_heap_Heap_objects_1_1 : Nat := 118
theorem fun_heap_Heap_objects_1_1 : Pr.funcs[f_heap_Heap_objects_1_1]? = some Tryz.f118 := Tryz.func118
abbrev f_slices_Clone___api_Ref_api_Ref_ : Nat := 119
theorem fun_slices_Clone___api_Ref_api_Ref_ : Pr.funcs[f_slices_Clone___api_Ref_api_Ref_]? = some Tryz.f119 := Tryz.func119
abbrev f_slices_Index___int_int_ : Nat := 120
theorem fun_slices_Index___int_int_ : Pr.funcs[f_slices_Index___int_int_]? = some Tryz.f120 := Tryz.func120
abbrev f_remset_Sets_key : Nat := 121
theorem fun_remset_Sets_key : Pr.funcs[f_remset_Sets_key]? = some Tryz.f121 := Tryz.func121
abbrev f_bits_Set_Has : Nat := 122
theorem fun_bits_Set_Has : Pr.funcs[f_bits_Set_Has]? = some Tryz.f122 := Tryz.func122
abbrev f_slices_pdqsortOrdered_int_ : Nat := 123
theorem fun_slices_pdqsortOrdered_int_ : Pr.funcs[f_slices_pdqsortOrdered_int_]? = some Tryz.f123 := Tryz.func123
abbrev f_math_bits_Len : Nat := 124
theorem fun_math_bits_Len : Pr.funcs[f_math_bits_Len]? = some Tryz.f124 := Tryz.func124
abbrev f_offs_Table_row : Nat := 125
theorem fun_offs_Table_row : Pr.funcs[f_offs_Table_row]? = some Tryz.f125 := Tryz.func125
abbrev f_offs_Table_cards : Nat := 126
theorem fun_offs_Table_cards : Pr.funcs[f_offs_Table_cards]? = some Tryz.f126 := Tryz.func126
abbrev f_offs_Table_Drop_1 : Nat := 127
theorem fun_offs_Table_Drop_1 : Pr.funcs[f_offs_Table_Drop_1]? = some Tryz.f127 := Tryz.func127
abbrev f_remset_Sets_forget : Nat := 128
theorem fun_remset_Sets_forget : Pr.funcs[f_remset_Sets_forget]? = some Tryz.f128 := Tryz.func128
abbrev f_remset_Sets_Clear_1 : Nat := 129
theorem fun_remset_Sets_Clear_1 : Pr.funcs[f_remset_Sets_Clear_1]? = some Tryz.f129 := Tryz.func129
abbrev f_remset_Sets_Scrub_1 : Nat := 130
theorem fun_remset_Sets_Scrub_1 : Pr.funcs[f_remset_Sets_Scrub_1]? = some Tryz.f130 := Tryz.func130
abbrev f_bits_Set_Drop : Nat := 131
theorem fun_bits_Set_Drop : Pr.funcs[f_bits_Set_Drop]? = some Tryz.f131 := Tryz.func131
abbrev f_bits_mask : Nat := 132
theorem fun_bits_mask : Pr.funcs[f_bits_mask]? = some Tryz.f132 := Tryz.func132
abbrev f_mutate_Mutator_alloc : Nat := 133
theorem fun_mutate_Mutator_alloc : Pr.funcs[f_mutate_Mutator_alloc]? = some Tryz.f133 := Tryz.func133
abbrev f_mutate_Mutator_field : Nat := 134
theorem fun_mutate_Mutator_field : Pr.funcs[f_mutate_Mutator_field]? = some Tryz.f134 := Tryz.func134
abbrev f_mutate_Mutator_plain : Nat := 135
theorem fun_mutate_Mutator_plain : Pr.funcs[f_mutate_Mutator_plain]? = some Tryz.f135 := Tryz.func135
abbrev f_geom_may : Nat := 136
theorem fun_geom_may : Pr.funcs[f_geom_may]? = some Tryz.f136 := Tryz.func136
abbrev f_gleanerref12_New : Nat := 137
theorem fun_gleanerref12_New : Pr.funcs[f_gleanerref12_New]? = some Tryz.f137 := Tryz.func137
abbrev f_mutate_Mutator_answer : Nat := 138
theorem fun_mutate_Mutator_answer : Pr.funcs[f_mutate_Mutator_answer]? = some Tryz.f138 := Tryz.func138
abbrev f_gleanerref13_Graph_step : Nat := 139
theorem fun_gleanerref13_Graph_step : Pr.funcs[f_gleanerref13_Graph_step]? = some Tryz.f139 := Tryz.func139
abbrev f_gleanerref02_May : Nat := 140
theorem fun_gleanerref02_May : Pr.funcs[f_gleanerref02_May]? = some Tryz.f140 := Tryz.func140
abbrev f_gleanerref02_power : Nat := 141
theorem fun_gleanerref02_power : Pr.funcs[f_gleanerref02_power]? = some Tryz.f141 := Tryz.func141
abbrev f_region_Table_Run : Nat := 142
theorem fun_region_Table_Run : Pr.funcs[f_region_Table_Run]? = some Tryz.f142 := Tryz.func142
abbrev f_offs_Table_Put_1 : Nat := 143
theorem fun_offs_Table_Put_1 : Pr.funcs[f_offs_Table_Put_1]? = some Tryz.f143 := Tryz.func143
abbrev f_gleanerlaw14_Built_Home : Nat := 144
theorem fun_gleanerlaw14_Built_Home : Pr.funcs[f_gleanerlaw14_Built_Home]? = some Tryz.f144 := Tryz.func144
abbrev f_remset_Sets_Add : Nat := 145
theorem fun_remset_Sets_Add : Pr.funcs[f_remset_Sets_Add]? = some Tryz.f145 := Tryz.func145
abbrev f_gleanerref13_meet : Nat := 146
theorem fun_gleanerref13_meet : Pr.funcs[f_gleanerref13_meet]? = some Tryz.f146 := Tryz.func146
abbrev f_bits_Set_Put : Nat := 147
theorem fun_bits_Set_Put : Pr.funcs[f_bits_Set_Put]? = some Tryz.f147 := Tryz.func147
abbrev f_offs_Table_First : Nat := 148
theorem fun_offs_Table_First : Pr.funcs[f_offs_Table_First]? = some Tryz.f148 := Tryz.func148
abbrev f_slices_Concat___int_int_ : Nat := 149
theorem fun_slices_Concat___int_int_ : Pr.funcs[f_slices_Concat___int_int_]? = some Tryz.f149 := Tryz.func149
abbrev f_arena_Arena_row : Nat := 150
theorem fun_arena_Arena_row : Pr.funcs[f_arena_Arena_row]? = some Tryz.f150 := Tryz.func150
abbrev f_head_part : Nat := 151
theorem fun_head_part : Pr.funcs[f_head_part]? = some Tryz.f151 := Tryz.func151
abbrev f_arena_Arena_Len : Nat := 152
theorem fun_arena_Arena_Len : Pr.funcs[f_arena_Arena_Len]? = some Tryz.f152 := Tryz.func152
abbrev f_slices_IndexFunc___api_Ref_api_Ref_ : Nat := 153
theorem fun_slices_IndexFunc___api_Ref_api_Ref_ : Pr.funcs[f_slices_IndexFunc___api_Ref_api_Ref_]? = some Tryz.f153 := Tryz.func153
abbrev f_remset_Sets_region : Nat := 154
theorem fun_remset_Sets_region : Pr.funcs[f_remset_Sets_region]? = some Tryz.f154 := Tryz.func154
abbrev f_slices_insertionSortOrdered_int_ : Nat := 155
theorem fun_slices_insertionSortOrdered_int_ : Pr.funcs[f_slices_insertionSortOrdered_int_]? = some Tryz.f155 := Tryz.func155
abbrev f_slices_heapSortOrdered_int_ : Nat := 156
theorem fun_slices_heapSortOrdered_int_ : Pr.funcs[f_slices_heapSortOrdered_int_]? = some Tryz.f156 := Tryz.func156
abbrev f_slices_breakPatternsOrdered_int_ : Nat := 157
theorem fun_slices_breakPatternsOrdered_int_ : Pr.funcs[f_slices_breakPatternsOrdered_int_]? = some Tryz.f157 := Tryz.func157
abbrev f_slices_choosePivotOrdered_int_ : Nat := 158
theorem fun_slices_choosePivotOrdered_int_ : Pr.funcs[f_slices_choosePivotOrdered_int_]? = some Tryz.f158 := Tryz.func158
abbrev f_slices_reverseRangeOrdered_int_ : Nat := 159
theorem fun_slices_reverseRangeOrdered_int_ : Pr.funcs[f_slices_reverseRangeOrdered_int_]? = some Tryz.f159 := Tryz.func159
abbrev f_slices_partialInsertionSortOrdered_int_ : Nat := 160
theorem fun_slices_partialInsertionSortOrdered_int_ : Pr.funcs[f_slices_partialInsertionSortOrdered_int_]? = some Tryz.f160 := Tryz.func160
abbrev f_cmp_Less_int_ : Nat := 161
theorem fun_cmp_Less_int_ : Pr.funcs[f_cmp_Less_int_]? = some Tryz.f161 := Tryz.func161
abbrev f_slices_partitionEqualOrdered_int_ : Nat := 162
theorem fun_slices_partitionEqualOrdered_int_ : Pr.funcs[f_slices_partitionEqualOrdered_int_]? = some Tryz.f162 := Tryz.func162
abbrev f_slices_partitionOrdered_int_ : Nat := 163
theorem fun_slices_partitionOrdered_int_ : Pr.funcs[f_slices_partitionOrdered_int_]? = some Tryz.f163 := Tryz.func163
abbrev f_math_bits_Len32 : Nat := 164
theorem fun_math_bits_Len32 : Pr.funcs[f_math_bits_Len32]? = some Tryz.f164 := Tryz.func164
abbrev f_math_bits_Len64 : Nat := 165
theorem fun_math_bits_Len64 : Pr.funcs[f_math_bits_Len64]? = some Tryz.f165 := Tryz.func165
abbrev f_maps_DeleteFunc_map_remset_pair___int_remset_pair___int_ : Nat := 166
theorem fun_maps_DeleteFunc_map_remset_pair___int_remset_pair___int_ : Pr.funcs[f_maps_DeleteFunc_map_remset_pair___int_remset_pair___int_]? = some Tryz.f166 := Tryz.func166
abbrev f_remset_Sets_forget_1 : Nat := 167
theorem fun_remset_Sets_forget_1 : Pr.funcs[f_remset_Sets_forget_1]? = some Tryz.f167 := Tryz.func167
abbrev f_maps_DeleteFunc_map_remset_pair__bits_Set_remset_pair__bits_Set_ : Nat := 168
theorem fun_maps_DeleteFunc_map_remset_pair__bits_Set_remset_pair__bits_Set_ : Pr.funcs[f_maps_DeleteFunc_map_remset_pair__bits_Set_remset_pair__bits_Set_]? = some Tryz.f168 := Tryz.func168
abbrev f_remset_Sets_forget_2 : Nat := 169
theorem fun_remset_Sets_forget_2 : Pr.funcs[f_remset_Sets_forget_2]? = some Tryz.f169 := Tryz.func169
abbrev f_maps_DeleteFunc_map_remset_pair_bool_remset_pair_bool_ : Nat := 170
theorem fun_maps_DeleteFunc_map_remset_pair_bool_remset_pair_bool_ : Pr.funcs[f_maps_DeleteFunc_map_remset_pair_bool_remset_pair_bool_]? = some Tryz.f170 := Tryz.func170
abbrev f_remset_Sets_forget_3 : Nat := 171
theorem fun_remset_Sets_forget_3 : Pr.funcs[f_remset_Sets_forget_3]? = some Tryz.f171 := Tryz.func171
abbrev f_bits_Set_check : Nat := 172
theorem fun_bits_Set_check : Pr.funcs[f_bits_Set_check]? = some Tryz.f172 := Tryz.func172
abbrev f_mutate_Mutator_size : Nat := 173
theorem fun_mutate_Mutator_size : Pr.funcs[f_mutate_Mutator_size]? = some Tryz.f173 := Tryz.func173
abbrev f_mutate_Mutator_place : Nat := 174
theorem fun_mutate_Mutator_place : Pr.funcs[f_mutate_Mutator_place]? = some Tryz.f174 := Tryz.func174
abbrev f_mutate_Mutator_on : Nat := 175
theorem fun_mutate_Mutator_on : Pr.funcs[f_mutate_Mutator_on]? = some Tryz.f175 := Tryz.func175
abbrev f_geom_Geom_Big : Nat := 176
theorem fun_geom_Geom_Big : Pr.funcs[f_geom_Geom_Big]? = some Tryz.f176 := Tryz.func176
abbrev f_mutate_Mutator_stack : Nat := 177
theorem fun_mutate_Mutator_stack : Pr.funcs[f_mutate_Mutator_stack]? = some Tryz.f177 := Tryz.func177
abbrev f_mutate_Mutator_find : Nat := 178
theorem fun_mutate_Mutator_find : Pr.funcs[f_mutate_Mutator_find]? = some Tryz.f178 := Tryz.func178
abbrev f_mutate_Mutator_note : Nat := 179
theorem fun_mutate_Mutator_note : Pr.funcs[f_mutate_Mutator_note]? = some Tryz.f179 := Tryz.func179
abbrev f_roots_Stack_At : Nat := 180
theorem fun_roots_Stack_At : Pr.funcs[f_roots_Stack_At]? = some Tryz.f180 := Tryz.func180
abbrev f_cards_Note : Nat := 181
theorem fun_cards_Note : Pr.funcs[f_cards_Note]? = some Tryz.f181 := Tryz.func181
abbrev f_roots_Stack_Pop : Nat := 182
theorem fun_roots_Stack_Pop : Pr.funcs[f_roots_Stack_Pop]? = some Tryz.f182 := Tryz.func182
abbrev f_gleanerref13_Graph_size : Nat := 183
theorem fun_gleanerref13_Graph_size : Pr.funcs[f_gleanerref13_Graph_size]? = some Tryz.f183 := Tryz.func183
abbrev f_gleanerref13_full : Nat := 184
theorem fun_gleanerref13_full : Pr.funcs[f_gleanerref13_full]? = some Tryz.f184 := Tryz.func184
abbrev f_gleanerref13_Graph_object : Nat := 185
theorem fun_gleanerref13_Graph_object : Pr.funcs[f_gleanerref13_Graph_object]? = some Tryz.f185 := Tryz.func185
abbrev f_gleanerref12_Stack_At : Nat := 186
theorem fun_gleanerref12_Stack_At : Pr.funcs[f_gleanerref12_Stack_At]? = some Tryz.f186 := Tryz.func186
abbrev f_gleanerref12_Stack_Pop : Nat := 187
theorem fun_gleanerref12_Stack_Pop : Pr.funcs[f_gleanerref12_Stack_Pop]? = some Tryz.f187 := Tryz.func187
abbrev f_gleanerref13_Graph_asks : Nat := 188
theorem fun_gleanerref13_Graph_asks : Pr.funcs[f_gleanerref13_Graph_asks]? = some Tryz.f188 := Tryz.func188
abbrev f_gleanerref02_in : Nat := 189
theorem fun_gleanerref02_in : Pr.funcs[f_gleanerref02_in]? = some Tryz.f189 := Tryz.func189
abbrev f_region_Table_hold : Nat := 190
theorem fun_region_Table_hold : Pr.funcs[f_region_Table_hold]? = some Tryz.f190 := Tryz.func190
abbrev f_remset_Sets_refine : Nat := 191
theorem fun_remset_Sets_refine : Pr.funcs[f_remset_Sets_refine]? = some Tryz.f191 := Tryz.func191
abbrev f_slices_Grow___int_int_ : Nat := 192
theorem fun_slices_Grow___int_int_ : Pr.funcs[f_slices_Grow___int_int_]? = some Tryz.f192 := Tryz.func192
abbrev f_slices_siftDownOrdered_int_ : Nat := 193
theorem fun_slices_siftDownOrdered_int_ : Pr.funcs[f_slices_siftDownOrdered_int_]? = some Tryz.f193 := Tryz.func193
abbrev f_slices_nextPowerOfTwo : Nat := 194
theorem fun_slices_nextPowerOfTwo : Pr.funcs[f_slices_nextPowerOfTwo]? = some Tryz.f194 := Tryz.func194
abbrev f_slices_xorshift_Next : Nat := 195
theorem fun_slices_xorshift_Next : Pr.funcs[f_slices_xorshift_Next]? = some Tryz.f195 := Tryz.func195
abbrev f_slices_medianAdjacentOrdered_int_ : Nat := 196
theorem fun_slices_medianAdjacentOrdered_int_ : Pr.funcs[f_slices_medianAdjacentOrdered_int_]? = some Tryz.f196 := Tryz.func196
abbrev f_slices_medianOrdered_int_ : Nat := 197
theorem fun_slices_medianOrdered_int_ : Pr.funcs[f_slices_medianOrdered_int_]? = some Tryz.f197 := Tryz.func197
abbrev f_cmp_isNaN_int_ : Nat := 198
theorem fun_cmp_isNaN_int_ : Pr.funcs[f_cmp_isNaN_int_]? = some Tryz.f198 := Tryz.func198
abbrev f_buffer_Buffer_Take : Nat := 199
theorem fun_buffer_Buffer_Take : Pr.funcs[f_buffer_Buffer_Take]? = some Tryz.f199 := Tryz.func199
abbrev f_region_Table_List : Nat := 200
theorem fun_region_Table_List : Pr.funcs[f_region_Table_List]? = some Tryz.f200 := Tryz.func200
abbrev f_buffer_New : Nat := 201
theorem fun_buffer_New : Pr.funcs[f_buffer_New]? = some Tryz.f201 := Tryz.func201
abbrev f_queue_Queue_Push : Nat := 202
theorem fun_queue_Queue_Push : Pr.funcs[f_queue_Queue_Push]? = some Tryz.f202 := Tryz.func202
abbrev f_roots_Stack_slot : Nat := 203
theorem fun_roots_Stack_slot : Pr.funcs[f_roots_Stack_slot]? = some Tryz.f203 := Tryz.func203
abbrev f_geom_Geom_Cross : Nat := 204
theorem fun_geom_Geom_Cross : Pr.funcs[f_geom_Geom_Cross]? = some Tryz.f204 := Tryz.func204
abbrev f_remset_Sets_refine_1 : Nat := 205
theorem fun_remset_Sets_refine_1 : Pr.funcs[f_remset_Sets_refine_1]? = some Tryz.f205 := Tryz.func205
abbrev f_bits_Set_Count : Nat := 206
theorem fun_bits_Set_Count : Pr.funcs[f_bits_Set_Count]? = some Tryz.f206 := Tryz.func206
abbrev f_slices_SortFunc___remset_pair_remset_pair_ : Nat := 207
theorem fun_slices_SortFunc___remset_pair_remset_pair_ : Pr.funcs[f_slices_SortFunc___remset_pair_remset_pair_]? = some Tryz.f207 := Tryz.func207
abbrev f_remset_Sets_refine_2 : Nat := 208
theorem fun_remset_Sets_refine_2 : Pr.funcs[f_remset_Sets_refine_2]? = some Tryz.f208 := Tryz.func208
abbrev f_slices_MaxFunc___remset_pair_remset_pair_ : Nat := 209
theorem fun_slices_MaxFunc___remset_pair_remset_pair_ : Pr.funcs[f_slices_MaxFunc___remset_pair_remset_pair_]? = some Tryz.f209 := Tryz.func209
abbrev f_remset_Sets_refine_3 : Nat := 210
theorem fun_remset_Sets_refine_3 : Pr.funcs[f_remset_Sets_refine_3]? = some Tryz.f210 := Tryz.func210
abbrev f_slices_order2Ordered_int_ : Nat := 211
theorem fun_slices_order2Ordered_int_ : Pr.funcs[f_slices_order2Ordered_int_]? = some Tryz.f211 := Tryz.func211
abbrev f_buffer_Buffer_Left : Nat := 212
theorem fun_buffer_Buffer_Left : Pr.funcs[f_buffer_Buffer_Left]? = some Tryz.f212 := Tryz.func212
abbrev f_math_bits_OnesCount64 : Nat := 213
theorem fun_math_bits_OnesCount64 : Pr.funcs[f_math_bits_OnesCount64]? = some Tryz.f213 := Tryz.func213
abbrev f_slices_pdqsortCmpFunc_remset_pair_ : Nat := 214
theorem fun_slices_pdqsortCmpFunc_remset_pair_ : Pr.funcs[f_slices_pdqsortCmpFunc_remset_pair_]? = some Tryz.f214 := Tryz.func214
abbrev f_slices_insertionSortCmpFunc_remset_pair_ : Nat := 215
theorem fun_slices_insertionSortCmpFunc_remset_pair_ : Pr.funcs[f_slices_insertionSortCmpFunc_remset_pair_]? = some Tryz.f215 := Tryz.func215
abbrev f_slices_heapSortCmpFunc_remset_pair_ : Nat := 216
theorem fun_slices_heapSortCmpFunc_remset_pair_ : Pr.funcs[f_slices_heapSortCmpFunc_remset_pair_]? = some Tryz.f216 := Tryz.func216
abbrev f_slices_breakPatternsCmpFunc_remset_pair_ : Nat := 217
theorem fun_slices_breakPatternsCmpFunc_remset_pair_ : Pr.funcs[f_slices_breakPatternsCmpFunc_remset_pair_]? = some Tryz.f217 := Tryz.func217
abbrev f_slices_choosePivotCmpFunc_remset_pair_ : Nat := 218
theorem fun_slices_choosePivotCmpFunc_remset_pair_ : Pr.funcs[f_slices_choosePivotCmpFunc_remset_pair_]? = some Tryz.f218 := Tryz.func218
abbrev f_slices_reverseRangeCmpFunc_remset_pair_ : Nat := 219
theorem fun_slices_reverseRangeCmpFunc_remset_pair_ : Pr.funcs[f_slices_reverseRangeCmpFunc_remset_pair_]? = some Tryz.f219 := Tryz.func219
abbrev f_slices_partialInsertionSortCmpFunc_remset_pair_ : Nat := 220
theorem fun_slices_partialInsertionSortCmpFunc_remset_pair_ : Pr.funcs[f_slices_partialInsertionSortCmpFunc_remset_pair_]? = some Tryz.f220 := Tryz.func220
abbrev f_slices_partitionEqualCmpFunc_remset_pair_ : Nat := 221
theorem fun_slices_partitionEqualCmpFunc_remset_pair_ : Pr.funcs[f_slices_partitionEqualCmpFunc_remset_pair_]? = some Tryz.f221 := Tryz.func221
abbrev f_slices_partitionCmpFunc_remset_pair_ : Nat := 222
theorem fun_slices_partitionCmpFunc_remset_pair_ : Pr.funcs[f_slices_partitionCmpFunc_remset_pair_]? = some Tryz.f222 := Tryz.func222
abbrev f_slices_siftDownCmpFunc_remset_pair_ : Nat := 223
theorem fun_slices_siftDownCmpFunc_remset_pair_ : Pr.funcs[f_slices_siftDownCmpFunc_remset_pair_]? = some Tryz.f223 := Tryz.func223
abbrev f_slices_medianAdjacentCmpFunc_remset_pair_ : Nat := 224
theorem fun_slices_medianAdjacentCmpFunc_remset_pair_ : Pr.funcs[f_slices_medianAdjacentCmpFunc_remset_pair_]? = some Tryz.f224 := Tryz.func224
abbrev f_slices_medianCmpFunc_remset_pair_ : Nat := 225
theorem fun_slices_medianCmpFunc_remset_pair_ : Pr.funcs[f_slices_medianCmpFunc_remset_pair_]? = some Tryz.f225 := Tryz.func225
abbrev f_slices_order2CmpFunc_remset_pair_ : Nat := 226
theorem fun_slices_order2CmpFunc_remset_pair_ : Pr.funcs[f_slices_order2CmpFunc_remset_pair_]? = some Tryz.f226 := Tryz.func226
end Go.Proofs.YtdhbpklmkibmbaaGreat
