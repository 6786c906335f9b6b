/- The seat's own names and numbers, out of the translation's listing, by a small program. -/
import Derived.Test.YtfokdnmidfmddaaProg
import Derived.Test.YtfokdnmidfmddaaVcG
import Derived.KernelRfl
namespace Go.Proofs.Ytfokdnmidfmddaa
open Go.Vc
noncomputable abbrev Pr : Program := Try.prog
noncomputable def T : Tab := Tab.mk [
  (3, ⟨.int .i64, 1, 8, [.int .i64 0]⟩),
  (4, ⟨.bool, 1, 1, [.bool false]⟩),
  (22, ⟨.slice 3, 1, 24, [.slice none 0 0]⟩),
  (23, ⟨.slice 33, 1, 24, [.slice none 0 0]⟩),
  (33, ⟨.struct [(3, 0), (3, 1)], 2, 16, [.int .i64 0, .int .i64 0]⟩),
  (27, ⟨.slice 34, 1, 24, [.slice none 0 0]⟩),
  (55, ⟨.int .u64, 1, 8, [.int .u64 0]⟩),
  (78, ⟨.int .u64, 1, 8, [.int .u64 0]⟩),
  (45, ⟨.func, 1, 8, [.nilFunc]⟩),
  (34, ⟨.struct [(3, 0), (3, 1)], 2, 16, [.int .i64 0, .int .i64 0]⟩),
  (71, ⟨.int .u64, 1, 8, [.int .u64 0]⟩),
  (61, ⟨.int .i64, 1, 8, [.int .i64 0]⟩),
  (69, ⟨.int .u32, 1, 4, [.int .u32 0]⟩),
  (38, ⟨.slice 4, 1, 24, [.slice none 0 0]⟩),
  (82, ⟨.ptr 3, 1, 8, [.pointer none]⟩),
  (5, ⟨.int .u8, 1, 1, [.int .u8 0]⟩),
  (86, ⟨.ptr 78, 1, 8, [.pointer none]⟩),
  (36, ⟨.slice 37, 1, 24, [.slice none 0 0]⟩),
  (49, ⟨.func, 1, 8, [.nilFunc]⟩),
  (37, ⟨.int .u16, 1, 2, [.int .u16 0]⟩),
  (9, ⟨.str, 1, 16, [.string ByteArray.empty]⟩)]
  [3, 4, 5, 6, 7, 8, 9, 10, 11, 12, 13, 14, 15, 16, 17, 18, 19, 20, 21, 22, 23, 24, 25, 26, 27, 28, 29, 30, 31, 32, 33, 34, 35, 36, 37, 38, 39, 40, 41, 42, 43, 44, 45, 46, 47, 48, 49, 50, 51, 52, 53, 54, 55, 56, 57, 58, 59, 60, 61]
theorem T_ok : T.Ok Pr := tab_of (by kernel_rfl)
theorem mixed : Pr.follows .mixedOrders = true := by kernel_rfl
abbrev t_int : Nat := 3
abbrev t_bool : Nat := 4
abbrev t_s_int : Nat := 22
abbrev t_s_cset_Candidate : Nat := 23
abbrev t_cset_Candidate : Nat := 33
abbrev t_s_gleanerref18_Candidate : Nat := 27
abbrev t_uint : Nat := 55
abbrev t_slices_xorshift : Nat := 78
abbrev t_gleanerref18_Candidate : Nat := 34
abbrev t_uint64 : Nat := 71
abbrev t_slices_sortedHint : Nat := 61
abbrev t_uint32 : Nat := 69
abbrev t_s_bool : Nat := 38
abbrev t_p_int : Nat := 82
abbrev t_uint8 : Nat := 5
abbrev t_p_slices_xorshift : Nat := 86
abbrev t_s_uint16 : Nat := 36
abbrev t_uint16 : Nat := 37
abbrev t_string : Nat := 9
abbrev f_gleanerlaw18_CsetAll : Nat := 3
theorem fun_gleanerlaw18_CsetAll : Pr.funcs[f_gleanerlaw18_CsetAll]? = some Try.f3 := Try.func3
abbrev f_gleanerlaw18_CsetBudget : Nat := 4
theorem fun_gleanerlaw18_CsetBudget : Pr.funcs[f_gleanerlaw18_CsetBudget]? = some Try.f4 := Try.func4
abbrev f_gleanerlaw18_CsetKeeps : Nat := 5
theorem fun_gleanerlaw18_CsetKeeps : Pr.funcs[f_gleanerlaw18_CsetKeeps]? = some Try.f5 := Try.func5
abbrev f_gleanerlaw18_awake : Nat := 6
theorem fun_gleanerlaw18_awake : Pr.funcs[f_gleanerlaw18_awake]? = some Try.f6 := Try.func6
abbrev f_cset_Choose : Nat := 7
theorem fun_cset_Choose : Pr.funcs[f_cset_Choose]? = some Try.f7 := Try.func7
abbrev f_cset_Next : Nat := 8
theorem fun_cset_Next : Pr.funcs[f_cset_Next]? = some Try.f8 := Try.func8
abbrev f_gleanerref18_Next : Nat := 9
theorem fun_gleanerref18_Next : Pr.funcs[f_gleanerref18_Next]? = some Try.f9 := Try.func9
abbrev f_gleanerlaw18_ref : Nat := 10
theorem fun_gleanerlaw18_ref : Pr.funcs[f_gleanerlaw18_ref]? = some Try.f10 := Try.func10
abbrev f_gleanerref01_Same : Nat := 11
theorem fun_gleanerref01_Same : Pr.funcs[f_gleanerref01_Same]? = some Try.f11 := Try.func11
abbrev f_gleanerref18_Choose : Nat := 12
theorem fun_gleanerref18_Choose : Pr.funcs[f_gleanerref18_Choose]? = some Try.f12 := Try.func12
abbrev f_slices_Clone___int_int_ : Nat := 13
theorem fun_slices_Clone___int_int_ : Pr.funcs[f_slices_Clone___int_int_]? = some Try.f13 := Try.func13
abbrev f_slices_Clone___cset_Candidate_cset_Candidate_ : Nat := 14
theorem fun_slices_Clone___cset_Candidate_cset_Candidate_ : Pr.funcs[f_slices_Clone___cset_Candidate_cset_Candidate_]? = some Try.f14 := Try.func14
abbrev f_slices_SortFunc___cset_Candidate_cset_Candidate_ : Nat := 15
theorem fun_slices_SortFunc___cset_Candidate_cset_Candidate_ : Pr.funcs[f_slices_SortFunc___cset_Candidate_cset_Candidate_]? = some Try.f15 := Try.func15
abbrev f_cset_Choose_1 : Nat := 16
theorem fun_cset_Choose_1 : Pr.funcs[f_cset_Choose_1]? = some Try.f16 := Try.func16
abbrev f_cmp_Or_int_ : Nat := 17
theorem fun_cmp_Or_int_ : Pr.funcs[f_cmp_Or_int_]? = some Try.f17 := Try.func17
abbrev f_cmp_Compare_int_ : Nat := 18
theorem fun_cmp_Compare_int_ : Pr.funcs[f_cmp_Compare_int_]? = some Try.f18 := Try.func18
abbrev f_slices_Sort___int_int_ : Nat := 19
theorem fun_slices_Sort___int_int_ : Pr.funcs[f_slices_Sort___int_int_]? = some Try.f19 := Try.func19
abbrev f_slices_Compact___int_int_ : Nat := 20
theorem fun_slices_Compact___int_int_ : Pr.funcs[f_slices_Compact___int_int_]? = some Try.f20 := Try.func20
abbrev f_slices_DeleteFunc___cset_Candidate_cset_Candidate_ : Nat := 21
theorem fun_slices_DeleteFunc___cset_Candidate_cset_Candidate_ : Pr.funcs[f_slices_DeleteFunc___cset_Candidate_cset_Candidate_]? = some Try.f21 := Try.func21
abbrev f_cset_Next_1 : Nat := 22
theorem fun_cset_Next_1 : Pr.funcs[f_cset_Next_1]? = some Try.f22 := Try.func22
abbrev f_slices_Contains___int_int_ : Nat := 23
theorem fun_slices_Contains___int_int_ : Pr.funcs[f_slices_Contains___int_int_]? = some Try.f23 := Try.func23
abbrev f_gleanerref18_add : Nat := 24
theorem fun_gleanerref18_add : Pr.funcs[f_gleanerref18_add]? = some Try.f24 := Try.func24
abbrev f_gleanerref18_less : Nat := 25
theorem fun_gleanerref18_less : Pr.funcs[f_gleanerref18_less]? = some Try.f25 := Try.func25
abbrev f_gleanerref18_live : Nat := 26
theorem fun_gleanerref18_live : Pr.funcs[f_gleanerref18_live]? = some Try.f26 := Try.func26
abbrev f_slices_pdqsortCmpFunc_cset_Candidate_ : Nat := 27
theorem fun_slices_pdqsortCmpFunc_cset_Candidate_ : Pr.funcs[f_slices_pdqsortCmpFunc_cset_Candidate_]? = some Try.f27 := Try.func27
abbrev f_math_bits_Len : Nat := 28
theorem fun_math_bits_Len : Pr.funcs[f_math_bits_Len]? = some Try.f28 := Try.func28
abbrev f_cmp_isNaN_int_ : Nat := 29
theorem fun_cmp_isNaN_int_ : Pr.funcs[f_cmp_isNaN_int_]? = some Try.f29 := Try.func29
abbrev f_slices_pdqsortOrdered_int_ : Nat := 30
theorem fun_slices_pdqsortOrdered_int_ : Pr.funcs[f_slices_pdqsortOrdered_int_]? = some Try.f30 := Try.func30
abbrev f_slices_IndexFunc___cset_Candidate_cset_Candidate_ : Nat := 31
theorem fun_slices_IndexFunc___cset_Candidate_cset_Candidate_ : Pr.funcs[f_slices_IndexFunc___cset_Candidate_cset_Candidate_]? = some Try.f31 := Try.func31
abbrev f_slices_Index___int_int_ : Nat := 32
theorem fun_slices_Index___int_int_ : Pr.funcs[f_slices_Index___int_int_]? = some Try.f32 := Try.func32
abbrev f_slices_insertionSortCmpFunc_cset_Candidate_ : Nat := 33
theorem fun_slices_insertionSortCmpFunc_cset_Candidate_ : Pr.funcs[f_slices_insertionSortCmpFunc_cset_Candidate_]? = some Try.f33 := Try.func33
abbrev f_slices_heapSortCmpFunc_cset_Candidate_ : Nat := 34
theorem fun_slices_heapSortCmpFunc_cset_Candidate_ : Pr.funcs[f_slices_heapSortCmpFunc_cset_Candidate_]? = some Try.f34 := Try.func34
abbrev f_slices_breakPatternsCmpFunc_cset_Candidate_ : Nat := 35
theorem fun_slices_breakPatternsCmpFunc_cset_Candidate_ : Pr.funcs[f_slices_breakPatternsCmpFunc_cset_Candidate_]? = some Try.f35 := Try.func35
abbrev f_slices_choosePivotCmpFunc_cset_Candidate_ : Nat := 36
theorem fun_slices_choosePivotCmpFunc_cset_Candidate_ : Pr.funcs[f_slices_choosePivotCmpFunc_cset_Candidate_]? = some Try.f36 := Try.func36
abbrev f_slices_reverseRangeCmpFunc_cset_Candidate_ : Nat := 37
theorem fun_slices_reverseRangeCmpFunc_cset_Candidate_ : Pr.funcs[f_slices_reverseRangeCmpFunc_cset_Candidate_]? = some Try.f37 := Try.func37
abbrev f_slices_partialInsertionSortCmpFunc_cset_Candidate_ : Nat := 38
theorem fun_slices_partialInsertionSortCmpFunc_cset_Candidate_ : Pr.funcs[f_slices_partialInsertionSortCmpFunc_cset_Candidate_]? = some Try.f38 := Try.func38
abbrev f_slices_partitionEqualCmpFunc_cset_Candidate_ : Nat := 39
theorem fun_slices_partitionEqualCmpFunc_cset_Candidate_ : Pr.funcs[f_slices_partitionEqualCmpFunc_cset_Candidate_]? = some Try.f39 := Try.func39
abbrev f_slices_partitionCmpFunc_cset_Candidate_ : Nat := 40
theorem fun_slices_partitionCmpFunc_cset_Candidate_ : Pr.funcs[f_slices_partitionCmpFunc_cset_Candidate_]? = some Try.f40 := Try.func40
abbrev f_math_bits_Len32 : Nat := 41
theorem fun_math_bits_Len32 : Pr.funcs[f_math_bits_Len32]? = some Try.f41 := Try.func41
abbrev f_math_bits_Len64 : Nat := 42
theorem fun_math_bits_Len64 : Pr.funcs[f_math_bits_Len64]? = some Try.f42 := Try.func42
abbrev f_slices_insertionSortOrdered_int_ : Nat := 43
theorem fun_slices_insertionSortOrdered_int_ : Pr.funcs[f_slices_insertionSortOrdered_int_]? = some Try.f43 := Try.func43
abbrev f_slices_heapSortOrdered_int_ : Nat := 44
theorem fun_slices_heapSortOrdered_int_ : Pr.funcs[f_slices_heapSortOrdered_int_]? = some Try.f44 := Try.func44
abbrev f_slices_breakPatternsOrdered_int_ : Nat := 45
theorem fun_slices_breakPatternsOrdered_int_ : Pr.funcs[f_slices_breakPatternsOrdered_int_]? = some Try.f45 := Try.func45
abbrev f_slices_choosePivotOrdered_int_ : Nat := 46
theorem fun_slices_choosePivotOrdered_int_ : Pr.funcs[f_slices_choosePivotOrdered_int_]? = some Try.f46 := Try.func46
abbrev f_slices_reverseRangeOrdered_int_ : Nat := 47
theorem fun_slices_reverseRangeOrdered_int_ : Pr.funcs[f_slices_reverseRangeOrdered_int_]? = some Try.f47 := Try.func47
abbrev f_slices_partialInsertionSortOrdered_int_ : Nat := 48
theorem fun_slices_partialInsertionSortOrdered_int_ : Pr.funcs[f_slices_partialInsertionSortOrdered_int_]? = some Try.f48 := Try.func48
abbrev f_cmp_Less_int_ : Nat := 49
theorem fun_cmp_Less_int_ : Pr.funcs[f_cmp_Less_int_]? = some Try.f49 := Try.func49
abbrev f_slices_partitionEqualOrdered_int_ : Nat := 50
theorem fun_slices_partitionEqualOrdered_int_ : Pr.funcs[f_slices_partitionEqualOrdered_int_]? = some Try.f50 := Try.func50
abbrev f_slices_partitionOrdered_int_ : Nat := 51
theorem fun_slices_partitionOrdered_int_ : Pr.funcs[f_slices_partitionOrdered_int_]? = some Try.f51 := Try.func51
abbrev f_slices_siftDownCmpFunc_cset_Candidate_ : Nat := 52
theorem fun_slices_siftDownCmpFunc_cset_Candidate_ : Pr.funcs[f_slices_siftDownCmpFunc_cset_Candidate_]? = some Try.f52 := Try.func52
abbrev f_slices_nextPowerOfTwo : Nat := 53
theorem fun_slices_nextPowerOfTwo : Pr.funcs[f_slices_nextPowerOfTwo]? = some Try.f53 := Try.func53
abbrev f_slices_xorshift_Next : Nat := 54
theorem fun_slices_xorshift_Next : Pr.funcs[f_slices_xorshift_Next]? = some Try.f54 := Try.func54
abbrev f_slices_medianAdjacentCmpFunc_cset_Candidate_ : Nat := 55
theorem fun_slices_medianAdjacentCmpFunc_cset_Candidate_ : Pr.funcs[f_slices_medianAdjacentCmpFunc_cset_Candidate_]? = some Try.f55 := Try.func55
abbrev f_slices_medianCmpFunc_cset_Candidate_ : Nat := 56
theorem fun_slices_medianCmpFunc_cset_Candidate_ : Pr.funcs[f_slices_medianCmpFunc_cset_Candidate_]? = some Try.f56 := Try.func56
abbrev f_slices_siftDownOrdered_int_ : Nat := 57
theorem fun_slices_siftDownOrdered_int_ : Pr.funcs[f_slices_siftDownOrdered_int_]? = some Try.f57 := Try.func57
abbrev f_slices_medianAdjacentOrdered_int_ : Nat := 58
theorem fun_slices_medianAdjacentOrdered_int_ : Pr.funcs[f_slices_medianAdjacentOrdered_int_]? = some Try.f58 := Try.func58
abbrev f_slices_medianOrdered_int_ : Nat := 59
theorem fun_slices_medianOrdered_int_ : Pr.funcs[f_slices_medianOrdered_int_]? = some Try.f59 := Try.func59
abbrev f_slices_order2CmpFunc_cset_Candidate_ : Nat := 60
theorem fun_slices_order2CmpFunc_cset_Candidate_ : Pr.funcs[f_slices_order2CmpFunc_cset_Candidate_]? = some Try.f60 := Try.func60
abbrev f_slices_order2Ordered_int_ : Nat := 61
theorem fun_slices_order2Ordered_int_ : Pr.funcs[f_slices_order2Ordered_int_]? = some Try.f61 := Try.func61
end Go.Proofs.Ytfokdnmidfmddaa
