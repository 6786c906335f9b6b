/- The seat's own names and numbers, out of the translation's listing, by a small program. -/
import Derived.Test.YtilhoimokegpjabProg
import Derived.Test.YtilhoimokegpjabVcG
import Derived.KernelRfl
namespace Go.Proofs.Ytilhoimokegpjab
open Go.Vc
noncomputable abbrev Pr : Program := Try.prog
noncomputable def T : Tab := Tab.mk [
  (3, ⟨.int .i64, 1, 8, [.int .i64 0]⟩),
  (4, ⟨.bool, 1, 1, [.bool false]⟩),
  (27, ⟨.int .i64, 1, 8, [.int .i64 0]⟩),
  (26, ⟨.ptr 47, 1, 8, [.pointer none]⟩),
  (22, ⟨.int .i64, 1, 8, [.int .i64 0]⟩),
  (51, ⟨.ptr 49, 1, 8, [.pointer none]⟩),
  (49, ⟨.struct [(22, 0), (21, 1), (21, 2)], 3, 16, [.int .i64 0, .int .i32 0, .int .i32 0]⟩),
  (45, ⟨.slice 49, 1, 24, [.slice none 0 0]⟩),
  (21, ⟨.int .i32, 1, 4, [.int .i32 0]⟩),
  (47, ⟨.struct [(3, 0), (45, 1)], 2, 32, [.int .i64 0, .slice none 0 0]⟩),
  (42, ⟨.struct [(3, 0), (3, 1), (3, 2), (3, 3), (3, 4), (3, 5)], 6, 48, [.int .i64 0, .int .i64 0, .int .i64 0, .int .i64 0, .int .i64 0, .int .i64 0]⟩),
  (24, ⟨.struct [(3, 0), (3, 1), (3, 2), (22, 3)], 4, 32, [.int .i64 0, .int .i64 0, .int .i64 0, .int .i64 0]⟩),
  (36, ⟨.slice 3, 1, 24, [.slice none 0 0]⟩)]
  [3, 4, 5, 6, 7, 8, 9, 10, 11, 12, 13, 14, 15, 16, 17, 18, 19, 20]
theorem T_ok : T.Ok Pr := tab_of (by kernel_rfl)
theorem mixed : Pr.follows .mixedOrders = true := by kernel_rfl
abbrev t_int : Nat := 3
abbrev t_bool : Nat := 4
abbrev t_api_Errno : Nat := 27
abbrev t_p_region_Table : Nat := 26
abbrev t_api_RegionState : Nat := 22
abbrev t_p_region_one : Nat := 51
abbrev t_region_one : Nat := 49
abbrev t_s_region_one : Nat := 45
abbrev t_int32 : Nat := 21
abbrev t_region_Table : Nat := 47
abbrev t_geom_Geom : Nat := 42
abbrev t_gleanerlaw07_Act : Nat := 24
abbrev t_s_int : Nat := 36
abbrev f_gleanerlaw07_RegionNil : Nat := 3
theorem fun_gleanerlaw07_RegionNil : Pr.funcs[f_gleanerlaw07_RegionNil]? = some Try.f3 := Try.func3
abbrev f_gleanerlaw07_awake : Nat := 4
theorem fun_gleanerlaw07_awake : Pr.funcs[f_gleanerlaw07_awake]? = some Try.f4 := Try.func4
abbrev f_region_Table_Claim : Nat := 5
theorem fun_region_Table_Claim : Pr.funcs[f_region_Table_Claim]? = some Try.f5 := Try.func5
abbrev f_region_Table_Run : Nat := 6
theorem fun_region_Table_Run : Pr.funcs[f_region_Table_Run]? = some Try.f6 := Try.func6
abbrev f_region_Table_Bump : Nat := 7
theorem fun_region_Table_Bump : Pr.funcs[f_region_Table_Bump]? = some Try.f7 := Try.func7
abbrev f_region_Table_SetTop : Nat := 8
theorem fun_region_Table_SetTop : Pr.funcs[f_region_Table_SetTop]? = some Try.f8 := Try.func8
abbrev f_region_Table_Mark : Nat := 9
theorem fun_region_Table_Mark : Pr.funcs[f_region_Table_Mark]? = some Try.f9 := Try.func9
abbrev f_region_Table_Turn : Nat := 10
theorem fun_region_Table_Turn : Pr.funcs[f_region_Table_Turn]? = some Try.f10 := Try.func10
abbrev f_region_Table_Release : Nat := 11
theorem fun_region_Table_Release : Pr.funcs[f_region_Table_Release]? = some Try.f11 := Try.func11
abbrev f_region_Table_State : Nat := 12
theorem fun_region_Table_State : Pr.funcs[f_region_Table_State]? = some Try.f12 := Try.func12
abbrev f_region_Table_Top : Nat := 13
theorem fun_region_Table_Top : Pr.funcs[f_region_Table_Top]? = some Try.f13 := Try.func13
abbrev f_region_Table_Tams : Nat := 14
theorem fun_region_Table_Tams : Pr.funcs[f_region_Table_Tams]? = some Try.f14 := Try.func14
abbrev f_region_Table_List : Nat := 15
theorem fun_region_Table_List : Pr.funcs[f_region_Table_List]? = some Try.f15 := Try.func15
abbrev f_region_New : Nat := 16
theorem fun_region_New : Pr.funcs[f_region_New]? = some Try.f16 := Try.func16
abbrev f_gleanerlaw07_small : Nat := 17
theorem fun_gleanerlaw07_small : Pr.funcs[f_gleanerlaw07_small]? = some Try.f17 := Try.func17
abbrev f_region_plain : Nat := 18
theorem fun_region_plain : Pr.funcs[f_region_plain]? = some Try.f18 := Try.func18
abbrev f_region_Table_hold : Nat := 19
theorem fun_region_Table_hold : Pr.funcs[f_region_Table_hold]? = some Try.f19 := Try.func19
abbrev f_region_Table_at : Nat := 20
theorem fun_region_Table_at : Pr.funcs[f_region_Table_at]? = some Try.f20 := Try.func20
end Go.Proofs.Ytilhoimokegpjab
