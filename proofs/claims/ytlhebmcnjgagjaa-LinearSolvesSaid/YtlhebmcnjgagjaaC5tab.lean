/- Each function's code is what the compiler makes of it. -/
import Derived.Test.YtlhebmcnjgagjaaChecked
import Derived.KernelRfl
import Derived.Test.YtlhebmcnjgagjaaAy24
import Derived.Test.YtlhebmcnjgagjaaC5code
namespace Go.Proofs.Ytlhebmcnjgagjaa
open Go Go.Ay
set_option maxRecDepth 100000
theorem e_law05_LinearSolves : compFn Try.prog [0, 1, 2, 3, 8, 9, 10, 11, 12, 13, 14, 15, 16, 17, 18, 19, 20, 21, 22, 23, 24, 26, 28, 31, 52, 100, 104, 116, 146, 149, 178] Try.f4 = some c_law05_LinearSolves := by kernel_rfl
theorem e_law05_lives : compFn Try.prog [0, 1, 2, 3, 4, 5, 6] Try.f10 = some c_law05_lives := by kernel_rfl
theorem e_law05_field : compFn Try.prog [0, 2] Try.f11 = some c_law05_field := by kernel_rfl
theorem e_kit_Pick : compFn Try.prog [0, 1, 4, 9] Try.f12 = some c_kit_Pick := by kernel_rfl
theorem e_law05_drawn : compFn Try.prog [0, 1, 2, 3, 8, 9, 10, 11, 12, 15, 20] Try.f13 = some c_law05_drawn := by kernel_rfl
theorem e_linear_Basis : compFn Try.prog [0, 1, 2, 6, 7, 8, 15] Try.f14 = some c_linear_Basis := by kernel_rfl
theorem e_law05_echelon : compFn Try.prog [0, 1, 2, 6, 7, 8, 9, 10, 11, 15, 24, 37, 57, 61, 76, 79, 100] Try.f15 = some c_law05_echelon := by kernel_rfl
theorem e_law05_mix : compFn Try.prog [0, 1, 2, 3, 8, 9, 10, 11, 12, 18, 26] Try.f16 = some c_law05_mix := by kernel_rfl
theorem e_linear_Rank : compFn Try.prog [0, 1, 2, 6, 7, 8, 15] Try.f17 = some c_linear_Rank := by kernel_rfl
theorem e_linear_In : compFn Try.prog [0, 1, 2, 3, 8, 9, 10, 19] Try.f18 = some c_linear_In := by kernel_rfl
theorem e_kit_SameLists_int : compFn Try.prog [0, 1, 4, 5, 10, 14, 26] Try.f19 = some c_kit_SameLists_int := by kernel_rfl
theorem e_kit_Taker_Take : compFn Try.prog [0, 1, 4, 18] Try.f21 = some c_kit_Taker_Take := by kernel_rfl
theorem e_linear_Kernel : compFn Try.prog [0, 1, 2, 3, 4, 8] Try.f22 = some c_linear_Kernel := by kernel_rfl
theorem e_kit_Same_int : compFn Try.prog [0, 1, 4, 5, 10, 14, 25] Try.f23 = some c_kit_Same_int := by kernel_rfl
theorem e_law05_apply : compFn Try.prog [0, 1, 3, 4, 5] Try.f24 = some c_law05_apply := by kernel_rfl
theorem e_linear_Solve : compFn Try.prog [0, 1, 2, 4, 5, 6, 7, 8, 9, 10, 14, 24, 46] Try.f25 = some c_linear_Solve := by kernel_rfl
theorem e_law05_rows : compFn Try.prog [0] Try.f42 = some c_law05_rows := by kernel_rfl
theorem e_law05_is : compFn Try.prog [0, 1, 2, 6] Try.f43 = some c_law05_is := by kernel_rfl
theorem e_law05_five : compFn Try.prog [0, 2] Try.f44 = some c_law05_five := by kernel_rfl
theorem e_linear_check : compFn Try.prog [0, 1, 2, 4, 6, 8, 9, 17, 24, 25, 26, 27, 32, 35] Try.f45 = some c_linear_check := by kernel_rfl
theorem e_linear_span : compFn Try.prog [0, 1, 2, 6, 7] Try.f46 = some c_linear_span := by kernel_rfl
theorem e_linear_echelon_list : compFn Try.prog [0, 2, 3, 5, 7, 8, 9] Try.f47 = some c_linear_echelon_list := by kernel_rfl
theorem e_linear_each_int : compFn Try.prog [0, 1, 4, 5, 7, 8, 9, 10, 11, 16] Try.f48 = some c_linear_each_int := by kernel_rfl
theorem e_linear_begin : compFn Try.prog [0, 1, 4] Try.f49 = some c_linear_begin := by kernel_rfl
theorem e_linear_echelon_insert : compFn Try.prog [0, 1, 2, 3, 4, 5, 6, 9, 21, 51, 52, 53] Try.f50 = some c_linear_echelon_insert := by kernel_rfl
theorem e_matrix_Check : compFn Try.prog [0, 1, 2, 4, 5, 10, 32, 33, 34, 35, 57] Try.f51 = some c_matrix_Check := by kernel_rfl
theorem e_linear_kernel : compFn Try.prog [0, 1, 2, 4, 6, 7, 8, 9, 19, 20, 21, 24] Try.f52 = some c_linear_kernel := by kernel_rfl
theorem e_ref04_Apply : compFn Try.prog [0, 1, 3, 4, 5, 6, 7, 8, 9, 13, 20, 30, 36] Try.f53 = some c_ref04_Apply := by kernel_rfl
theorem e_linear_marked : compFn Try.prog [0, 1, 4, 5, 6, 7, 11, 12, 13, 14] Try.f54 = some c_linear_marked := by kernel_rfl
theorem e_linear_echelon_reduced : compFn Try.prog [0, 1, 2, 3, 4, 5, 6, 14, 15, 16] Try.f55 = some c_linear_echelon_reduced := by kernel_rfl
theorem e_slices_Concat_int_int : compFn Try.prog [0, 2, 3, 5, 6, 8, 9, 10, 11, 12, 20, 25, 26, 27, 28] Try.f56 = some c_slices_Concat_int_int := by kernel_rfl
theorem e_slices_Max_int_int : compFn Try.prog [0, 2, 3, 4, 7, 15] Try.f57 = some c_slices_Max_int_int := by kernel_rfl
theorem e_linear_field_add : compFn Try.prog [0, 1, 2, 3, 4, 8, 9, 10, 11, 12, 13] Try.f58 = some c_linear_field_add := by kernel_rfl
theorem e_slices_Clone_int_int : compFn Try.prog [0, 2, 4] Try.f66 = some c_slices_Clone_int_int := by kernel_rfl
theorem e_ref04_Check : compFn Try.prog [0, 1, 2, 3, 4, 8, 34, 39, 53, 61, 85] Try.f67 = some c_ref04_Check := by kernel_rfl
theorem e_prime_Is : compFn Try.prog [0, 2] Try.f72 = some c_prime_Is := by kernel_rfl
theorem e_slices_ContainsFunc_int_int : compFn Try.prog [0, 1, 4] Try.f73 = some c_slices_ContainsFunc_int_int := by kernel_rfl
theorem e_linear_check_1 : compFn Try.prog [0, 1, 3] Try.f74 = some c_linear_check_1 := by kernel_rfl
theorem e_linear_echelon_pivots : compFn Try.prog [0, 1, 2] Try.f75 = some c_linear_echelon_pivots := by kernel_rfl
theorem e_slices_IndexFunc_int_int : compFn Try.prog [0, 1, 4, 5, 7, 8, 9, 16] Try.f76 = some c_slices_IndexFunc_int_int := by kernel_rfl
theorem e_linear_echelon_insert_1 : compFn Try.prog [0, 2] Try.f77 = some c_linear_echelon_insert_1 := by kernel_rfl
theorem e_prime_Inv : compFn Try.prog [0, 1, 4, 5, 6, 14] Try.f78 = some c_prime_Inv := by kernel_rfl
theorem e_matrix_field : compFn Try.prog [0, 2] Try.f79 = some c_matrix_field := by kernel_rfl
theorem e_slices_Min_int_int : compFn Try.prog [0, 2, 3, 4, 7, 15] Try.f80 = some c_slices_Min_int_int := by kernel_rfl
theorem e_linear_field_residues : compFn Try.prog [0, 1, 2, 4, 5, 6, 7, 11, 12, 13, 14] Try.f81 = some c_linear_field_residues := by kernel_rfl
theorem e_slices_Grow_int_int : compFn Try.prog [0, 1, 4, 6, 16] Try.f82 = some c_slices_Grow_int_int := by kernel_rfl
theorem e_ref04_Field : compFn Try.prog [0, 2] Try.f83 = some c_ref04_Field := by kernel_rfl
theorem e_prime_divides : compFn Try.prog [0, 2, 3, 8, 14] Try.f92 = some c_prime_divides := by kernel_rfl
theorem e_slices_IndexFunc_int_int_x93 : compFn Try.prog [0, 1, 4, 5, 7, 8, 9, 16] Try.f93 = some c_slices_IndexFunc_int_int_x93 := by kernel_rfl
theorem e_linear_echelon_pivots_1 : compFn Try.prog [0, 1, 3, 4, 5, 9, 10, 11, 29] Try.f94 = some c_linear_echelon_pivots_1 := by kernel_rfl
theorem e_prime_unit : compFn Try.prog [0, 1, 4, 5, 8, 13] Try.f95 = some c_prime_unit := by kernel_rfl
theorem e_prime_to : compFn Try.prog [0, 1, 2, 6] Try.f96 = some c_prime_to := by kernel_rfl
theorem e_ref03_Is : compFn Try.prog [0, 2, 3, 9, 14, 20] Try.f97 = some c_ref03_Is := by kernel_rfl
theorem e_prime_residue : compFn Try.prog [0, 1, 4, 9] Try.f101 = some c_prime_residue := by kernel_rfl
theorem e_prime_power_int : compFn Try.prog [0, 1, 2, 3, 8, 10, 15] Try.f102 = some c_prime_power_int := by kernel_rfl
theorem e_prime_modulo : compFn Try.prog [0, 1, 2] Try.f103 = some c_prime_modulo := by kernel_rfl
theorem e_prime_modulo_1 : compFn Try.prog [0, 1, 2, 5] Try.f105 = some c_prime_modulo_1 := by kernel_rfl
theorem pok : POk Try.prog T := by
  unfold T tab
  refine POk_find_cons Try.func4 e_law05_LinearSolves (by kernel_rfl) ?_
  refine POk_find_cons Try.func10 e_law05_lives (by kernel_rfl) ?_
  refine POk_find_cons Try.func11 e_law05_field (by kernel_rfl) ?_
  refine POk_find_cons Try.func12 e_kit_Pick (by kernel_rfl) ?_
  refine POk_find_cons Try.func13 e_law05_drawn (by kernel_rfl) ?_
  refine POk_find_cons Try.func14 e_linear_Basis (by kernel_rfl) ?_
  refine POk_find_cons Try.func15 e_law05_echelon (by kernel_rfl) ?_
  refine POk_find_cons Try.func16 e_law05_mix (by kernel_rfl) ?_
  refine POk_find_cons Try.func17 e_linear_Rank (by kernel_rfl) ?_
  refine POk_find_cons Try.func18 e_linear_In (by kernel_rfl) ?_
  refine POk_find_cons Try.func19 e_kit_SameLists_int (by kernel_rfl) ?_
  refine POk_find_cons Try.func21 e_kit_Taker_Take (by kernel_rfl) ?_
  refine POk_find_cons Try.func22 e_linear_Kernel (by kernel_rfl) ?_
  refine POk_find_cons Try.func23 e_kit_Same_int (by kernel_rfl) ?_
  refine POk_find_cons Try.func24 e_law05_apply (by kernel_rfl) ?_
  refine POk_find_cons Try.func25 e_linear_Solve (by kernel_rfl) ?_
  refine POk_find_cons Try.func42 e_law05_rows (by kernel_rfl) ?_
  refine POk_find_cons Try.func43 e_law05_is (by kernel_rfl) ?_
  refine POk_find_cons Try.func44 e_law05_five (by kernel_rfl) ?_
  refine POk_find_cons Try.func45 e_linear_check (by kernel_rfl) ?_
  refine POk_find_cons Try.func46 e_linear_span (by kernel_rfl) ?_
  refine POk_find_cons Try.func47 e_linear_echelon_list (by kernel_rfl) ?_
  refine POk_find_cons Try.func48 e_linear_each_int (by kernel_rfl) ?_
  refine POk_find_cons Try.func49 e_linear_begin (by kernel_rfl) ?_
  refine POk_find_cons Try.func50 e_linear_echelon_insert (by kernel_rfl) ?_
  refine POk_find_cons Try.func51 e_matrix_Check (by kernel_rfl) ?_
  refine POk_find_cons Try.func52 e_linear_kernel (by kernel_rfl) ?_
  refine POk_find_cons Try.func53 e_ref04_Apply (by kernel_rfl) ?_
  refine POk_find_cons Try.func54 e_linear_marked (by kernel_rfl) ?_
  refine POk_find_cons Try.func55 e_linear_echelon_reduced (by kernel_rfl) ?_
  refine POk_find_cons Try.func56 e_slices_Concat_int_int (by kernel_rfl) ?_
  refine POk_find_cons Try.func57 e_slices_Max_int_int (by kernel_rfl) ?_
  refine POk_find_cons Try.func58 e_linear_field_add (by kernel_rfl) ?_
  refine POk_find_cons Try.func66 e_slices_Clone_int_int (by kernel_rfl) ?_
  refine POk_find_cons Try.func67 e_ref04_Check (by kernel_rfl) ?_
  refine POk_find_cons Try.func72 e_prime_Is (by kernel_rfl) ?_
  refine POk_find_cons Try.func73 e_slices_ContainsFunc_int_int (by kernel_rfl) ?_
  refine POk_find_cons Try.func74 e_linear_check_1 (by kernel_rfl) ?_
  refine POk_find_cons Try.func75 e_linear_echelon_pivots (by kernel_rfl) ?_
  refine POk_find_cons Try.func76 e_slices_IndexFunc_int_int (by kernel_rfl) ?_
  refine POk_find_cons Try.func77 e_linear_echelon_insert_1 (by kernel_rfl) ?_
  refine POk_find_cons Try.func78 e_prime_Inv (by kernel_rfl) ?_
  refine POk_find_cons Try.func79 e_matrix_field (by kernel_rfl) ?_
  refine POk_find_cons Try.func80 e_slices_Min_int_int (by kernel_rfl) ?_
  refine POk_find_cons Try.func81 e_linear_field_residues (by kernel_rfl) ?_
  refine POk_find_cons Try.func82 e_slices_Grow_int_int (by kernel_rfl) ?_
  refine POk_find_cons Try.func83 e_ref04_Field (by kernel_rfl) ?_
  refine POk_find_cons Try.func92 e_prime_divides (by kernel_rfl) ?_
  refine POk_find_cons Try.func93 e_slices_IndexFunc_int_int_x93 (by kernel_rfl) ?_
  refine POk_find_cons Try.func94 e_linear_echelon_pivots_1 (by kernel_rfl) ?_
  refine POk_find_cons Try.func95 e_prime_unit (by kernel_rfl) ?_
  refine POk_find_cons Try.func96 e_prime_to (by kernel_rfl) ?_
  refine POk_find_cons Try.func97 e_ref03_Is (by kernel_rfl) ?_
  refine POk_find_cons Try.func101 e_prime_residue (by kernel_rfl) ?_
  refine POk_find_cons Try.func102 e_prime_power_int (by kernel_rfl) ?_
  refine POk_find_cons Try.func103 e_prime_modulo (by kernel_rfl) ?_
  refine POk_find_cons Try.func105 e_prime_modulo_1 (by kernel_rfl) ?_
  exact POk_find_nil
end Go.Proofs.Ytlhebmcnjgagjaa

