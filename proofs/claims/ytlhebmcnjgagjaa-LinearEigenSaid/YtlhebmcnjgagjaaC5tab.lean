/- Each function's code is what the compiler makes of it. -/
import Derived.Test.YtlhebmcnjgagjaaChecked
import Derived.KernelRfl
import Derived.Test.YtlhebmcnjgagjaaAy24
import Derived.Test.YtlhebmcnjgagjaaC5code
namespace Go.Proofs.Ytlhebmcnjgagjaa
open Go Go.Ay
set_option maxRecDepth 100000
theorem e_law05_LinearEigen : compFn Try.prog [0, 1, 2, 6, 7, 8, 9, 10, 11, 12, 13, 14, 15, 16, 17, 18, 19, 21, 22, 24, 27, 52, 71, 75, 98, 101, 121, 130, 142] Try.f7 = some c_law05_LinearEigen := by kernel_rfl
theorem e_law05_lives : compFn Try.prog [0, 1, 2, 3, 4, 5, 6] Try.f10 = some c_law05_lives := by kernel_rfl
theorem e_kit_Pick : compFn Try.prog [0, 1, 4, 9] Try.f12 = some c_kit_Pick := by kernel_rfl
theorem e_law05_drawn : compFn Try.prog [0, 1, 2, 3, 8, 9, 10, 11, 12, 15, 20] Try.f13 = some c_law05_drawn := by kernel_rfl
theorem e_linear_Basis : compFn Try.prog [0, 1, 2, 6, 7, 8, 15] Try.f14 = some c_linear_Basis := by kernel_rfl
theorem e_linear_In : compFn Try.prog [0, 1, 2, 3, 8, 9, 10, 19] Try.f18 = some c_linear_In := by kernel_rfl
theorem e_kit_SameLists_int : compFn Try.prog [0, 1, 4, 5, 10, 14, 26] Try.f19 = some c_kit_SameLists_int := by kernel_rfl
theorem e_kit_Taker_Take : compFn Try.prog [0, 1, 4, 18] Try.f21 = some c_kit_Taker_Take := by kernel_rfl
theorem e_linear_Kernel : compFn Try.prog [0, 1, 2, 3, 4, 8] Try.f22 = some c_linear_Kernel := by kernel_rfl
theorem e_kit_Same_int : compFn Try.prog [0, 1, 4, 5, 10, 14, 25] Try.f23 = some c_kit_Same_int := by kernel_rfl
theorem e_law05_apply : compFn Try.prog [0, 1, 3, 4, 5] Try.f24 = some c_law05_apply := by kernel_rfl
theorem e_linear_Values : compFn Try.prog [0, 1, 2, 3, 4, 5, 6, 7, 8, 10, 17, 20, 21, 22, 25, 26, 27, 37] Try.f34 = some c_linear_Values := by kernel_rfl
theorem e_linear_Eigen : compFn Try.prog [0, 1, 2, 4, 5, 6, 7, 8, 9, 12, 16, 31, 32, 33, 34] Try.f35 = some c_linear_Eigen := by kernel_rfl
theorem e_kit_Has_int : compFn Try.prog [0, 1, 4, 5, 9, 17] Try.f36 = some c_kit_Has_int := by kernel_rfl
theorem e_ref04_Turn : compFn Try.prog [0, 1, 2, 3, 4, 5, 6, 7, 11, 29, 38] Try.f37 = some c_ref04_Turn := by kernel_rfl
theorem e_law05_rows : compFn Try.prog [0] Try.f42 = some c_law05_rows := by kernel_rfl
theorem e_law05_is : compFn Try.prog [0, 1, 2, 6] Try.f43 = some c_law05_is := by kernel_rfl
theorem e_law05_five : compFn Try.prog [0, 2] Try.f44 = some c_law05_five := by kernel_rfl
theorem e_linear_check : compFn Try.prog [0, 1, 2, 4, 6, 8, 9, 17, 24, 25, 26, 27, 32, 35] Try.f45 = some c_linear_check := by kernel_rfl
theorem e_linear_span : compFn Try.prog [0, 1, 2, 6, 7] Try.f46 = some c_linear_span := by kernel_rfl
theorem e_linear_echelon_list : compFn Try.prog [0, 2, 3, 5, 7, 8, 9] Try.f47 = some c_linear_echelon_list := by kernel_rfl
theorem e_linear_each_int : compFn Try.prog [0, 1, 4, 5, 7, 8, 9, 10, 11, 16] Try.f48 = some c_linear_each_int := by kernel_rfl
theorem e_linear_begin : compFn Try.prog [0, 1, 4] Try.f49 = some c_linear_begin := by kernel_rfl
theorem e_linear_echelon_insert : compFn Try.prog [0, 1, 2, 3, 4, 5, 6, 9, 21, 51, 52, 53] Try.f50 = some c_linear_echelon_insert := by kernel_rfl
theorem e_matrix_Check : compFn Try.prog [0, 1, 2, 4, 5, 10, 32, 33, 34, 35, 57] Try.f51 = some c_matrix_Check := by kernel_rfl
theorem e_linear_kernel : compFn Try.prog [0, 1, 2, 4, 6, 7, 8, 9, 19, 20, 21, 24] Try.f52 = some c_linear_kernel := by kernel_rfl
theorem e_ref04_Apply : compFn Try.prog [0, 1, 3, 4, 5, 6, 7, 8, 9, 13, 20, 30, 36] Try.f53 = some c_ref04_Apply := by kernel_rfl
theorem e_linear_marked : compFn Try.prog [0, 1, 4, 5, 6, 7, 11, 12, 13, 14] Try.f54 = some c_linear_marked := by kernel_rfl
theorem e_linear_echelon_reduced : compFn Try.prog [0, 1, 2, 3, 4, 5, 6, 14, 15, 16] Try.f55 = some c_linear_echelon_reduced := by kernel_rfl
theorem e_slices_Max_int_int : compFn Try.prog [0, 2, 3, 4, 7, 15] Try.f57 = some c_slices_Max_int_int := by kernel_rfl
theorem e_linear_field_add : compFn Try.prog [0, 1, 2, 3, 4, 8, 9, 10, 11, 12, 13] Try.f58 = some c_linear_field_add := by kernel_rfl
theorem e_matrix_Poly : compFn Try.prog [0, 1, 2, 3, 4, 5, 6, 7, 8, 9, 10, 11, 12, 13, 14, 15, 16, 17, 21, 30, 31, 32, 45, 46, 47, 48, 77, 106, 107, 108, 109] Try.f64 = some c_matrix_Poly := by kernel_rfl
theorem e_slices_Backward_int_int : compFn Try.prog [0, 1, 2] Try.f65 = some c_slices_Backward_int_int := by kernel_rfl
theorem e_slices_Clone_int_int : compFn Try.prog [0, 2, 4] Try.f66 = some c_slices_Clone_int_int := by kernel_rfl
theorem e_ref04_Check : compFn Try.prog [0, 1, 2, 3, 4, 8, 34, 39, 53, 61, 85] Try.f67 = some c_ref04_Check := by kernel_rfl
theorem e_ref04_blank : compFn Try.prog [0, 1, 2, 6, 7, 8, 13] Try.f68 = some c_ref04_blank := by kernel_rfl
theorem e_prime_Is : compFn Try.prog [0, 2] Try.f72 = some c_prime_Is := by kernel_rfl
theorem e_slices_ContainsFunc_int_int : compFn Try.prog [0, 1, 4] Try.f73 = some c_slices_ContainsFunc_int_int := by kernel_rfl
theorem e_linear_check_1 : compFn Try.prog [0, 1, 3] Try.f74 = some c_linear_check_1 := by kernel_rfl
theorem e_linear_echelon_pivots : compFn Try.prog [0, 1, 2] Try.f75 = some c_linear_echelon_pivots := by kernel_rfl
theorem e_slices_IndexFunc_int_int : compFn Try.prog [0, 1, 4, 5, 7, 8, 9, 16] Try.f76 = some c_slices_IndexFunc_int_int := by kernel_rfl
theorem e_linear_echelon_insert_1 : compFn Try.prog [0, 2] Try.f77 = some c_linear_echelon_insert_1 := by kernel_rfl
theorem e_prime_Inv : compFn Try.prog [0, 1, 4, 5, 6, 14] Try.f78 = some c_prime_Inv := by kernel_rfl
theorem e_matrix_field : compFn Try.prog [0, 2] Try.f79 = some c_matrix_field := by kernel_rfl
theorem e_slices_Min_int_int : compFn Try.prog [0, 2, 3, 4, 7, 15] Try.f80 = some c_slices_Min_int_int := by kernel_rfl
theorem e_linear_field_residues : compFn Try.prog [0, 1, 2, 4, 5, 6, 7, 11, 12, 13, 14] Try.f81 = some c_linear_field_residues := by kernel_rfl
theorem e_ref04_Field : compFn Try.prog [0, 2] Try.f83 = some c_ref04_Field := by kernel_rfl
theorem e_matrix_square : compFn Try.prog [0, 1, 2, 3, 18] Try.f86 = some c_matrix_square := by kernel_rfl
theorem e_matrix_bent : compFn Try.prog [0, 1, 2, 3, 4, 5, 6, 7, 8, 9, 11, 12, 14, 15, 17, 26, 27, 28, 29, 39, 40, 41, 57, 62, 79, 80, 81, 82, 119, 151, 152, 153, 154] Try.f87 = some c_matrix_bent := by kernel_rfl
theorem e_slices_Backward_int_int_1 : compFn Try.prog [0, 1, 3, 8, 18] Try.f88 = some c_slices_Backward_int_int_1 := by kernel_rfl
theorem e_prime_divides : compFn Try.prog [0, 2, 3, 8, 14] Try.f92 = some c_prime_divides := by kernel_rfl
theorem e_slices_IndexFunc_int_int_x93 : compFn Try.prog [0, 1, 4, 5, 7, 8, 9, 16] Try.f93 = some c_slices_IndexFunc_int_int_x93 := by kernel_rfl
theorem e_linear_echelon_pivots_1 : compFn Try.prog [0, 1, 3, 4, 5, 9, 10, 11, 29] Try.f94 = some c_linear_echelon_pivots_1 := by kernel_rfl
theorem e_prime_unit : compFn Try.prog [0, 1, 4, 5, 8, 13] Try.f95 = some c_prime_unit := by kernel_rfl
theorem e_prime_to : compFn Try.prog [0, 1, 2, 6] Try.f96 = some c_prime_to := by kernel_rfl
theorem e_ref03_Is : compFn Try.prog [0, 2, 3, 9, 14, 20] Try.f97 = some c_ref03_Is := by kernel_rfl
theorem e_matrix_zip_int_int_int : compFn Try.prog [0, 1, 2, 6, 7, 8, 9, 13, 14, 15, 16] Try.f98 = some c_matrix_zip_int_int_int := by kernel_rfl
theorem e_matrix_plus : compFn Try.prog [0, 1, 2, 3, 4] Try.f99 = some c_matrix_plus := by kernel_rfl
theorem e_prime_residue : compFn Try.prog [0, 1, 4, 9] Try.f101 = some c_prime_residue := by kernel_rfl
theorem e_prime_power_int : compFn Try.prog [0, 1, 2, 3, 8, 10, 15] Try.f102 = some c_prime_power_int := by kernel_rfl
theorem e_prime_modulo : compFn Try.prog [0, 1, 2] Try.f103 = some c_prime_modulo := by kernel_rfl
theorem e_matrix_plus_1 : compFn Try.prog [0, 1, 2, 3, 6] Try.f104 = some c_matrix_plus_1 := by kernel_rfl
theorem e_prime_modulo_1 : compFn Try.prog [0, 1, 2, 5] Try.f105 = some c_prime_modulo_1 := by kernel_rfl
theorem pok : POk Try.prog T := by
  unfold T tab
  refine POk_find_cons Try.func7 e_law05_LinearEigen (by kernel_rfl) ?_
  refine POk_find_cons Try.func10 e_law05_lives (by kernel_rfl) ?_
  refine POk_find_cons Try.func12 e_kit_Pick (by kernel_rfl) ?_
  refine POk_find_cons Try.func13 e_law05_drawn (by kernel_rfl) ?_
  refine POk_find_cons Try.func14 e_linear_Basis (by kernel_rfl) ?_
  refine POk_find_cons Try.func18 e_linear_In (by kernel_rfl) ?_
  refine POk_find_cons Try.func19 e_kit_SameLists_int (by kernel_rfl) ?_
  refine POk_find_cons Try.func21 e_kit_Taker_Take (by kernel_rfl) ?_
  refine POk_find_cons Try.func22 e_linear_Kernel (by kernel_rfl) ?_
  refine POk_find_cons Try.func23 e_kit_Same_int (by kernel_rfl) ?_
  refine POk_find_cons Try.func24 e_law05_apply (by kernel_rfl) ?_
  refine POk_find_cons Try.func34 e_linear_Values (by kernel_rfl) ?_
  refine POk_find_cons Try.func35 e_linear_Eigen (by kernel_rfl) ?_
  refine POk_find_cons Try.func36 e_kit_Has_int (by kernel_rfl) ?_
  refine POk_find_cons Try.func37 e_ref04_Turn (by kernel_rfl) ?_
  refine POk_find_cons Try.func42 e_law05_rows (by kernel_rfl) ?_
  refine POk_find_cons Try.func43 e_law05_is (by kernel_rfl) ?_
  refine POk_find_cons Try.func44 e_law05_five (by kernel_rfl) ?_
  refine POk_find_cons Try.func45 e_linear_check (by kernel_rfl) ?_
  refine POk_find_cons Try.func46 e_linear_span (by kernel_rfl) ?_
  refine POk_find_cons Try.func47 e_linear_echelon_list (by kernel_rfl) ?_
  refine POk_find_cons Try.func48 e_linear_each_int (by kernel_rfl) ?_
  refine POk_find_cons Try.func49 e_linear_begin (by kernel_rfl) ?_
  refine POk_find_cons Try.func50 e_linear_echelon_insert (by kernel_rfl) ?_
  refine POk_find_cons Try.func51 e_matrix_Check (by kernel_rfl) ?_
  refine POk_find_cons Try.func52 e_linear_kernel (by kernel_rfl) ?_
  refine POk_find_cons Try.func53 e_ref04_Apply (by kernel_rfl) ?_
  refine POk_find_cons Try.func54 e_linear_marked (by kernel_rfl) ?_
  refine POk_find_cons Try.func55 e_linear_echelon_reduced (by kernel_rfl) ?_
  refine POk_find_cons Try.func57 e_slices_Max_int_int (by kernel_rfl) ?_
  refine POk_find_cons Try.func58 e_linear_field_add (by kernel_rfl) ?_
  refine POk_find_cons Try.func64 e_matrix_Poly (by kernel_rfl) ?_
  refine POk_find_cons Try.func65 e_slices_Backward_int_int (by kernel_rfl) ?_
  refine POk_find_cons Try.func66 e_slices_Clone_int_int (by kernel_rfl) ?_
  refine POk_find_cons Try.func67 e_ref04_Check (by kernel_rfl) ?_
  refine POk_find_cons Try.func68 e_ref04_blank (by kernel_rfl) ?_
  refine POk_find_cons Try.func72 e_prime_Is (by kernel_rfl) ?_
  refine POk_find_cons Try.func73 e_slices_ContainsFunc_int_int (by kernel_rfl) ?_
  refine POk_find_cons Try.func74 e_linear_check_1 (by kernel_rfl) ?_
  refine POk_find_cons Try.func75 e_linear_echelon_pivots (by kernel_rfl) ?_
  refine POk_find_cons Try.func76 e_slices_IndexFunc_int_int (by kernel_rfl) ?_
  refine POk_find_cons Try.func77 e_linear_echelon_insert_1 (by kernel_rfl) ?_
  refine POk_find_cons Try.func78 e_prime_Inv (by kernel_rfl) ?_
  refine POk_find_cons Try.func79 e_matrix_field (by kernel_rfl) ?_
  refine POk_find_cons Try.func80 e_slices_Min_int_int (by kernel_rfl) ?_
  refine POk_find_cons Try.func81 e_linear_field_residues (by kernel_rfl) ?_
  refine POk_find_cons Try.func83 e_ref04_Field (by kernel_rfl) ?_
  refine POk_find_cons Try.func86 e_matrix_square (by kernel_rfl) ?_
  refine POk_find_cons Try.func87 e_matrix_bent (by kernel_rfl) ?_
  refine POk_find_cons Try.func88 e_slices_Backward_int_int_1 (by kernel_rfl) ?_
  refine POk_find_cons Try.func92 e_prime_divides (by kernel_rfl) ?_
  refine POk_find_cons Try.func93 e_slices_IndexFunc_int_int_x93 (by kernel_rfl) ?_
  refine POk_find_cons Try.func94 e_linear_echelon_pivots_1 (by kernel_rfl) ?_
  refine POk_find_cons Try.func95 e_prime_unit (by kernel_rfl) ?_
  refine POk_find_cons Try.func96 e_prime_to (by kernel_rfl) ?_
  refine POk_find_cons Try.func97 e_ref03_Is (by kernel_rfl) ?_
  refine POk_find_cons Try.func98 e_matrix_zip_int_int_int (by kernel_rfl) ?_
  refine POk_find_cons Try.func99 e_matrix_plus (by kernel_rfl) ?_
  refine POk_find_cons Try.func101 e_prime_residue (by kernel_rfl) ?_
  refine POk_find_cons Try.func102 e_prime_power_int (by kernel_rfl) ?_
  refine POk_find_cons Try.func103 e_prime_modulo (by kernel_rfl) ?_
  refine POk_find_cons Try.func104 e_matrix_plus_1 (by kernel_rfl) ?_
  refine POk_find_cons Try.func105 e_prime_modulo_1 (by kernel_rfl) ?_
  exact POk_find_nil
end Go.Proofs.Ytlhebmcnjgagjaa

