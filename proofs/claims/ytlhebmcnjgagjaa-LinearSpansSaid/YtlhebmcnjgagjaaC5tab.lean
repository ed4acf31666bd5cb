/- Each function's code is what the compiler makes of it. -/
import Derived.Test.YtlhebmcnjgagjaaChecked
import Derived.KernelRfl
import Derived.Test.YtlhebmcnjgagjaaAy24
import Derived.Test.YtlhebmcnjgagjaaC5code
namespace Go.Proofs.Ytlhebmcnjgagjaa
open Go Go.Ay
set_option maxRecDepth 100000
theorem e_law05_LinearSpans : compFn Try.prog [0, 1, 2, 3, 4, 10, 11, 12, 13, 14, 15, 16, 17, 18, 19, 20, 21, 22, 23, 24, 25, 26, 27, 28, 29, 30, 32, 38] Try.f5 = some c_law05_LinearSpans := by kernel_rfl
theorem e_law05_lives : compFn Try.prog [0, 1, 2, 3, 4, 5, 6] Try.f10 = some c_law05_lives := by kernel_rfl
theorem e_kit_Pick : compFn Try.prog [0, 1, 4, 9] Try.f12 = some c_kit_Pick := by kernel_rfl
theorem e_linear_Basis : compFn Try.prog [0, 1, 2, 6, 7, 8, 15] Try.f14 = some c_linear_Basis := by kernel_rfl
theorem e_linear_Rank : compFn Try.prog [0, 1, 2, 6, 7, 8, 15] Try.f17 = some c_linear_Rank := by kernel_rfl
theorem e_linear_In : compFn Try.prog [0, 1, 2, 3, 8, 9, 10, 19] Try.f18 = some c_linear_In := by kernel_rfl
theorem e_kit_SameLists_int : compFn Try.prog [0, 1, 4, 5, 10, 14, 26] Try.f19 = some c_kit_SameLists_int := by kernel_rfl
theorem e_kit_Own_int : compFn Try.prog [0, 2] Try.f20 = some c_kit_Own_int := by kernel_rfl
theorem e_linear_Kernel : compFn Try.prog [0, 1, 2, 3, 4, 8] Try.f22 = some c_linear_Kernel := by kernel_rfl
theorem e_kit_Same_int : compFn Try.prog [0, 1, 4, 5, 10, 14, 25] Try.f23 = some c_kit_Same_int := by kernel_rfl
theorem e_law05_large : compFn Try.prog [0, 2, 3, 4, 8, 16, 23, 34] Try.f26 = some c_law05_large := by kernel_rfl
theorem e_ref05_Basis : compFn Try.prog [0, 1, 2, 6, 7, 8, 9, 17] Try.f27 = some c_ref05_Basis := by kernel_rfl
theorem e_ref05_Rank : compFn Try.prog [0, 1, 2, 6, 7, 8, 9] Try.f28 = some c_ref05_Rank := by kernel_rfl
theorem e_ref05_In : compFn Try.prog [0, 1, 2, 3, 8, 9, 10, 11, 13, 23] Try.f29 = some c_ref05_In := by kernel_rfl
theorem e_linear_Sum : compFn Try.prog [0, 1, 2, 3, 8, 9, 10, 18] Try.f30 = some c_linear_Sum := by kernel_rfl
theorem e_ref05_Sum : compFn Try.prog [0, 1, 2, 3, 8, 9, 10, 11, 20] Try.f31 = some c_ref05_Sum := by kernel_rfl
theorem e_linear_Meet : compFn Try.prog [0, 1, 2, 3, 8, 9, 10, 11, 12, 13, 14, 16, 17, 18, 19, 27, 49, 50, 51, 52, 57, 58, 59, 60] Try.f32 = some c_linear_Meet := by kernel_rfl
theorem e_ref05_Meet : compFn Try.prog [0, 1, 2, 3, 8, 9, 10, 11, 12, 13, 14, 15, 16, 25, 51, 59] Try.f33 = some c_ref05_Meet := by kernel_rfl
theorem e_law05_rows : compFn Try.prog [0] Try.f42 = some c_law05_rows := by kernel_rfl
theorem e_law05_is : compFn Try.prog [0, 1, 2, 6] Try.f43 = some c_law05_is := by kernel_rfl
theorem e_law05_five : compFn Try.prog [0, 2] Try.f44 = some c_law05_five := by kernel_rfl
theorem e_linear_check : compFn Try.prog [0, 1, 2, 4, 6, 8, 9, 17, 24, 25, 26, 27, 32, 35] Try.f45 = some c_linear_check := by kernel_rfl
theorem e_linear_span : compFn Try.prog [0, 1, 2, 6, 7] Try.f46 = some c_linear_span := by kernel_rfl
theorem e_linear_echelon_list : compFn Try.prog [0, 2, 3, 5, 7, 8, 9] Try.f47 = some c_linear_echelon_list := by kernel_rfl
theorem e_linear_each_int : compFn Try.prog [0, 1, 4, 5, 7, 8, 9, 10, 11, 16] Try.f48 = some c_linear_each_int := by kernel_rfl
theorem e_linear_begin : compFn Try.prog [0, 1, 4] Try.f49 = some c_linear_begin := by kernel_rfl
theorem e_linear_echelon_insert : compFn Try.prog [0, 1, 2, 3, 4, 5, 6, 9, 21, 51, 52, 53] Try.f50 = some c_linear_echelon_insert := by kernel_rfl
theorem e_matrix_Check : compFn Try.prog [0, 1, 2, 4, 5, 10, 32, 33, 34, 35, 57] Try.f51 = some c_matrix_Check := by kernel_rfl
theorem e_linear_kernel : compFn Try.prog [0, 1, 2, 4, 6, 7, 8, 9, 19, 20, 21, 24] Try.f52 = some c_linear_kernel := by kernel_rfl
theorem e_linear_marked : compFn Try.prog [0, 1, 4, 5, 6, 7, 11, 12, 13, 14] Try.f54 = some c_linear_marked := by kernel_rfl
theorem e_linear_echelon_reduced : compFn Try.prog [0, 1, 2, 3, 4, 5, 6, 14, 15, 16] Try.f55 = some c_linear_echelon_reduced := by kernel_rfl
theorem e_slices_Max_int_int : compFn Try.prog [0, 2, 3, 4, 7, 15] Try.f57 = some c_slices_Max_int_int := by kernel_rfl
theorem e_linear_field_add : compFn Try.prog [0, 1, 2, 3, 4, 8, 9, 10, 11, 12, 13] Try.f58 = some c_linear_field_add := by kernel_rfl
theorem e_ref05_check : compFn Try.prog [0, 1, 2, 6, 7, 8, 11, 17, 21, 29, 36, 48] Try.f59 = some c_ref05_check := by kernel_rfl
theorem e_ref05_basis : compFn Try.prog [0, 1, 2, 6, 7, 8, 9, 10, 11, 12, 13, 14, 15, 17, 18, 22, 36, 52, 58, 93, 115] Try.f60 = some c_ref05_basis := by kernel_rfl
theorem e_slices_Concat_int_int_x61 : compFn Try.prog [0, 2, 3, 5, 6, 8, 9, 10, 11, 12, 20, 25, 26, 27, 28] Try.f61 = some c_slices_Concat_int_int_x61 := by kernel_rfl
theorem e_ref05_kernel : compFn Try.prog [0, 1, 2, 6, 7, 8, 9, 10, 11, 12, 13, 17, 50, 58] Try.f62 = some c_ref05_kernel := by kernel_rfl
theorem e_ref05_add : compFn Try.prog [0, 1, 2, 3, 8, 12] Try.f63 = some c_ref05_add := by kernel_rfl
theorem e_slices_Clone_int_int : compFn Try.prog [0, 2, 4] Try.f66 = some c_slices_Clone_int_int := by kernel_rfl
theorem e_ref03_Inv : compFn Try.prog [0, 1, 4, 5, 6, 14] Try.f69 = some c_ref03_Inv := by kernel_rfl
theorem e_kit_Own_int_x70 : compFn Try.prog [0, 2] Try.f70 = some c_kit_Own_int_x70 := by kernel_rfl
theorem e_prime_Is : compFn Try.prog [0, 2] Try.f72 = some c_prime_Is := by kernel_rfl
theorem e_slices_ContainsFunc_int_int : compFn Try.prog [0, 1, 4] Try.f73 = some c_slices_ContainsFunc_int_int := by kernel_rfl
theorem e_linear_check_1 : compFn Try.prog [0, 1, 3] Try.f74 = some c_linear_check_1 := by kernel_rfl
theorem e_linear_echelon_pivots : compFn Try.prog [0, 1, 2] Try.f75 = some c_linear_echelon_pivots := by kernel_rfl
theorem e_slices_IndexFunc_int_int : compFn Try.prog [0, 1, 4, 5, 7, 8, 9, 16] Try.f76 = some c_slices_IndexFunc_int_int := by kernel_rfl
theorem e_linear_echelon_insert_1 : compFn Try.prog [0, 2] Try.f77 = some c_linear_echelon_insert_1 := by kernel_rfl
theorem e_prime_Inv : compFn Try.prog [0, 1, 4, 5, 6, 14] Try.f78 = some c_prime_Inv := by kernel_rfl
theorem e_matrix_field : compFn Try.prog [0, 2] Try.f79 = some c_matrix_field := by kernel_rfl
theorem e_slices_Min_int_int : compFn Try.prog [0, 2, 3, 4, 7, 15] Try.f80 = some c_slices_Min_int_int := by kernel_rfl
theorem e_linear_field_residues : compFn Try.prog [0, 1, 2, 4, 5, 6, 7, 11, 12, 13, 14] Try.f81 = some c_linear_field_residues := by kernel_rfl
theorem e_ref04_Field : compFn Try.prog [0, 2] Try.f83 = some c_ref04_Field := by kernel_rfl
theorem e_ref05_residues : compFn Try.prog [0, 1, 4, 5, 6, 10] Try.f84 = some c_ref05_residues := by kernel_rfl
theorem e_slices_Grow_int_int_x85 : compFn Try.prog [0, 1, 4, 6, 16] Try.f85 = some c_slices_Grow_int_int_x85 := by kernel_rfl
theorem e_ref03_residue : compFn Try.prog [0, 1, 4, 5, 6, 18] Try.f89 = some c_ref03_residue := by kernel_rfl
theorem e_ref03_power : compFn Try.prog [0, 1, 2, 6, 7, 11, 16] Try.f90 = some c_ref03_power := by kernel_rfl
theorem e_prime_divides : compFn Try.prog [0, 2, 3, 8, 14] Try.f92 = some c_prime_divides := by kernel_rfl
theorem e_slices_IndexFunc_int_int_x93 : compFn Try.prog [0, 1, 4, 5, 7, 8, 9, 16] Try.f93 = some c_slices_IndexFunc_int_int_x93 := by kernel_rfl
theorem e_linear_echelon_pivots_1 : compFn Try.prog [0, 1, 3, 4, 5, 9, 10, 11, 29] Try.f94 = some c_linear_echelon_pivots_1 := by kernel_rfl
theorem e_prime_unit : compFn Try.prog [0, 1, 4, 5, 8, 13] Try.f95 = some c_prime_unit := by kernel_rfl
theorem e_prime_to : compFn Try.prog [0, 1, 2, 6] Try.f96 = some c_prime_to := by kernel_rfl
theorem e_ref03_Is : compFn Try.prog [0, 2, 3, 9, 14, 20] Try.f97 = some c_ref03_Is := by kernel_rfl
theorem e_ref03_Mod : compFn Try.prog [0, 1, 4, 5, 8] Try.f100 = some c_ref03_Mod := by kernel_rfl
theorem e_prime_residue : compFn Try.prog [0, 1, 4, 9] Try.f101 = some c_prime_residue := by kernel_rfl
theorem e_prime_power_int : compFn Try.prog [0, 1, 2, 3, 8, 10, 15] Try.f102 = some c_prime_power_int := by kernel_rfl
theorem e_prime_modulo : compFn Try.prog [0, 1, 2] Try.f103 = some c_prime_modulo := by kernel_rfl
theorem e_prime_modulo_1 : compFn Try.prog [0, 1, 2, 5] Try.f105 = some c_prime_modulo_1 := by kernel_rfl
theorem pok : POk Try.prog T := by
  unfold T tab
  refine POk_find_cons Try.func5 e_law05_LinearSpans (by kernel_rfl) ?_
  refine POk_find_cons Try.func10 e_law05_lives (by kernel_rfl) ?_
  refine POk_find_cons Try.func12 e_kit_Pick (by kernel_rfl) ?_
  refine POk_find_cons Try.func14 e_linear_Basis (by kernel_rfl) ?_
  refine POk_find_cons Try.func17 e_linear_Rank (by kernel_rfl) ?_
  refine POk_find_cons Try.func18 e_linear_In (by kernel_rfl) ?_
  refine POk_find_cons Try.func19 e_kit_SameLists_int (by kernel_rfl) ?_
  refine POk_find_cons Try.func20 e_kit_Own_int (by kernel_rfl) ?_
  refine POk_find_cons Try.func22 e_linear_Kernel (by kernel_rfl) ?_
  refine POk_find_cons Try.func23 e_kit_Same_int (by kernel_rfl) ?_
  refine POk_find_cons Try.func26 e_law05_large (by kernel_rfl) ?_
  refine POk_find_cons Try.func27 e_ref05_Basis (by kernel_rfl) ?_
  refine POk_find_cons Try.func28 e_ref05_Rank (by kernel_rfl) ?_
  refine POk_find_cons Try.func29 e_ref05_In (by kernel_rfl) ?_
  refine POk_find_cons Try.func30 e_linear_Sum (by kernel_rfl) ?_
  refine POk_find_cons Try.func31 e_ref05_Sum (by kernel_rfl) ?_
  refine POk_find_cons Try.func32 e_linear_Meet (by kernel_rfl) ?_
  refine POk_find_cons Try.func33 e_ref05_Meet (by kernel_rfl) ?_
  refine POk_find_cons Try.func42 e_law05_rows (by kernel_rfl) ?_
  refine POk_find_cons Try.func43 e_law05_is (by kernel_rfl) ?_
  refine POk_find_cons Try.func44 e_law05_five (by kernel_rfl) ?_
  refine POk_find_cons Try.func45 e_linear_check (by kernel_rfl) ?_
  refine POk_find_cons Try.func46 e_linear_span (by kernel_rfl) ?_
  refine POk_find_cons Try.func47 e_linear_echelon_list (by kernel_rfl) ?_
  refine POk_find_cons Try.func48 e_linear_each_int (by kernel_rfl) ?_
  refine POk_find_cons Try.func49 e_linear_begin (by kernel_rfl) ?_
  refine POk_find_cons Try.func50 e_linear_echelon_insert (by kernel_rfl) ?_
  refine POk_find_cons Try.func51 e_matrix_Check (by kernel_rfl) ?_
  refine POk_find_cons Try.func52 e_linear_kernel (by kernel_rfl) ?_
  refine POk_find_cons Try.func54 e_linear_marked (by kernel_rfl) ?_
  refine POk_find_cons Try.func55 e_linear_echelon_reduced (by kernel_rfl) ?_
  refine POk_find_cons Try.func57 e_slices_Max_int_int (by kernel_rfl) ?_
  refine POk_find_cons Try.func58 e_linear_field_add (by kernel_rfl) ?_
  refine POk_find_cons Try.func59 e_ref05_check (by kernel_rfl) ?_
  refine POk_find_cons Try.func60 e_ref05_basis (by kernel_rfl) ?_
  refine POk_find_cons Try.func61 e_slices_Concat_int_int_x61 (by kernel_rfl) ?_
  refine POk_find_cons Try.func62 e_ref05_kernel (by kernel_rfl) ?_
  refine POk_find_cons Try.func63 e_ref05_add (by kernel_rfl) ?_
  refine POk_find_cons Try.func66 e_slices_Clone_int_int (by kernel_rfl) ?_
  refine POk_find_cons Try.func69 e_ref03_Inv (by kernel_rfl) ?_
  refine POk_find_cons Try.func70 e_kit_Own_int_x70 (by kernel_rfl) ?_
  refine POk_find_cons Try.func72 e_prime_Is (by kernel_rfl) ?_
  refine POk_find_cons Try.func73 e_slices_ContainsFunc_int_int (by kernel_rfl) ?_
  refine POk_find_cons Try.func74 e_linear_check_1 (by kernel_rfl) ?_
  refine POk_find_cons Try.func75 e_linear_echelon_pivots (by kernel_rfl) ?_
  refine POk_find_cons Try.func76 e_slices_IndexFunc_int_int (by kernel_rfl) ?_
  refine POk_find_cons Try.func77 e_linear_echelon_insert_1 (by kernel_rfl) ?_
  refine POk_find_cons Try.func78 e_prime_Inv (by kernel_rfl) ?_
  refine POk_find_cons Try.func79 e_matrix_field (by kernel_rfl) ?_
  refine POk_find_cons Try.func80 e_slices_Min_int_int (by kernel_rfl) ?_
  refine POk_find_cons Try.func81 e_linear_field_residues (by kernel_rfl) ?_
  refine POk_find_cons Try.func83 e_ref04_Field (by kernel_rfl) ?_
  refine POk_find_cons Try.func84 e_ref05_residues (by kernel_rfl) ?_
  refine POk_find_cons Try.func85 e_slices_Grow_int_int_x85 (by kernel_rfl) ?_
  refine POk_find_cons Try.func89 e_ref03_residue (by kernel_rfl) ?_
  refine POk_find_cons Try.func90 e_ref03_power (by kernel_rfl) ?_
  refine POk_find_cons Try.func92 e_prime_divides (by kernel_rfl) ?_
  refine POk_find_cons Try.func93 e_slices_IndexFunc_int_int_x93 (by kernel_rfl) ?_
  refine POk_find_cons Try.func94 e_linear_echelon_pivots_1 (by kernel_rfl) ?_
  refine POk_find_cons Try.func95 e_prime_unit (by kernel_rfl) ?_
  refine POk_find_cons Try.func96 e_prime_to (by kernel_rfl) ?_
  refine POk_find_cons Try.func97 e_ref03_Is (by kernel_rfl) ?_
  refine POk_find_cons Try.func100 e_ref03_Mod (by kernel_rfl) ?_
  refine POk_find_cons Try.func101 e_prime_residue (by kernel_rfl) ?_
  refine POk_find_cons Try.func102 e_prime_power_int (by kernel_rfl) ?_
  refine POk_find_cons Try.func103 e_prime_modulo (by kernel_rfl) ?_
  refine POk_find_cons Try.func105 e_prime_modulo_1 (by kernel_rfl) ?_
  exact POk_find_nil
end Go.Proofs.Ytlhebmcnjgagjaa

