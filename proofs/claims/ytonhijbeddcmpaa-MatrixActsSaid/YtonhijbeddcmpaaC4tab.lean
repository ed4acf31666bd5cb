/- Each function's code is what the compiler makes of it. -/
import Derived.Test.YtonhijbeddcmpaaChecked
import Derived.KernelRfl
import Derived.Test.YtonhijbeddcmpaaAy24
import Derived.Test.YtonhijbeddcmpaaC4code
namespace Go.Proofs.Ytonhijbeddcmpaa
open Go Go.Ay
set_option maxRecDepth 100000
theorem e_law04_MatrixActs : compFn Try.prog [0, 1, 4, 5, 6, 7, 8, 9, 10, 11, 12, 13, 14, 15, 16, 17, 18, 19, 20, 21, 22, 23, 24, 26, 29, 111, 113, 117, 147, 161, 174] Try.f4 = some c_law04_MatrixActs := by kernel_rfl
theorem e_law04_lives : compFn Try.prog [0, 1, 2, 3, 4, 5, 6, 7, 8, 9, 10] Try.f11 = some c_law04_lives := by kernel_rfl
theorem e_matrix_Order : compFn Try.prog [0, 1, 2, 3, 5, 6, 7, 8, 15, 25, 35, 37] Try.f13 = some c_matrix_Order := by kernel_rfl
theorem e_matrix_Perm : compFn Try.prog [0, 1, 2, 3, 4, 5, 7, 8, 9, 10, 11, 12, 14, 18, 22, 23, 24, 30, 38, 45, 46, 47, 54, 70, 71, 72, 73] Try.f15 = some c_matrix_Perm := by kernel_rfl
theorem e_kit_Same_int : compFn Try.prog [0, 1, 4, 5, 10, 14, 25] Try.f17 = some c_kit_Same_int := by kernel_rfl
theorem e_kit_Pick : compFn Try.prog [0, 1, 4, 9] Try.f18 = some c_kit_Pick := by kernel_rfl
theorem e_law04_drawn : compFn Try.prog [0, 1, 2, 6, 7, 8, 9, 10, 15, 20] Try.f19 = some c_law04_drawn := by kernel_rfl
theorem e_matrix_Mul : compFn Try.prog [0, 1, 2, 3, 4, 5, 6, 12, 23] Try.f20 = some c_matrix_Mul := by kernel_rfl
theorem e_matrix_Det : compFn Try.prog [0, 1, 2, 3, 4, 6, 10] Try.f21 = some c_matrix_Det := by kernel_rfl
theorem e_kit_Fine : compFn Try.prog [0, 1, 4, 5, 6, 10, 15, 39] Try.f22 = some c_kit_Fine := by kernel_rfl
theorem e_kit_Mul : compFn Try.prog [0, 1, 4, 5, 6, 10] Try.f23 = some c_kit_Mul := by kernel_rfl
theorem e_kit_One : compFn Try.prog [0, 2, 3, 4, 7] Try.f24 = some c_kit_One := by kernel_rfl
theorem e_matrix_Inv : compFn Try.prog [0, 1, 2, 3, 4, 5, 6, 10, 19] Try.f27 = some c_matrix_Inv := by kernel_rfl
theorem e_ref04_Same : compFn Try.prog [0, 1, 2, 3, 4] Try.f30 = some c_ref04_Same := by kernel_rfl
theorem e_matrix_Check : compFn Try.prog [0, 1, 2, 4, 5, 10, 32, 33, 34, 35, 57] Try.f41 = some c_matrix_Check := by kernel_rfl
theorem e_law04_of : compFn Try.prog [0, 2] Try.f50 = some c_law04_of := by kernel_rfl
theorem e_law04_is : compFn Try.prog [0, 1, 2, 3, 5, 6] Try.f51 = some c_law04_is := by kernel_rfl
theorem e_matrix_one : compFn Try.prog [0, 1, 4, 5, 6, 11, 12, 13] Try.f52 = some c_matrix_one := by kernel_rfl
theorem e_matrix_mul : compFn Try.prog [0, 1, 2, 3, 4, 5, 7, 12, 13, 14, 15] Try.f53 = some c_matrix_mul := by kernel_rfl
theorem e_slices_EqualFunc_int_int_int_int : compFn Try.prog [0, 1, 2, 6, 7, 8, 9, 14, 15, 16, 17, 18, 30] Try.f54 = some c_slices_EqualFunc_int_int_int_int := by kernel_rfl
theorem e_slices_Equal_int_int : compFn Try.prog [0, 1, 4, 5, 10, 12, 13, 14, 24] Try.f55 = some c_slices_Equal_int_int := by kernel_rfl
theorem e_matrix_square : compFn Try.prog [0, 1, 2, 3, 18] Try.f58 = some c_matrix_square := by kernel_rfl
theorem e_matrix_invert : compFn Try.prog [0, 1, 2, 3, 4, 5, 6, 7, 8, 10, 18, 23, 24, 25, 26, 48, 49, 50, 55, 67, 68, 69, 70] Try.f59 = some c_matrix_invert := by kernel_rfl
theorem e_matrix_apply : compFn Try.prog [0, 1, 3, 4, 5, 6, 7, 14, 15, 16, 17] Try.f60 = some c_matrix_apply := by kernel_rfl
theorem e_kit_Taker_Take : compFn Try.prog [0, 1, 4, 18] Try.f62 = some c_kit_Taker_Take := by kernel_rfl
theorem e_matrix_fit : compFn Try.prog [0, 2, 4, 5, 7, 8, 9, 10, 11, 17, 20, 21, 22, 23, 32] Try.f63 = some c_matrix_fit := by kernel_rfl
theorem e_matrix_field : compFn Try.prog [0, 2] Try.f64 = some c_matrix_field := by kernel_rfl
theorem e_kit_SameLists_int : compFn Try.prog [0, 1, 4, 5, 10, 14, 26] Try.f66 = some c_kit_SameLists_int := by kernel_rfl
theorem e_matrix_zip_int_int_int_x69 : compFn Try.prog [0, 1, 2, 6, 7, 8, 9, 13, 14, 15, 16] Try.f69 = some c_matrix_zip_int_int_int_x69 := by kernel_rfl
theorem e_matrix_plus : compFn Try.prog [0, 1, 2, 3, 4] Try.f70 = some c_matrix_plus := by kernel_rfl
theorem e_matrix_residue : compFn Try.prog [0, 1, 4] Try.f71 = some c_matrix_residue := by kernel_rfl
theorem e_slices_Min_int_int : compFn Try.prog [0, 2, 3, 4, 7, 15] Try.f75 = some c_slices_Min_int_int := by kernel_rfl
theorem e_slices_Max_int_int : compFn Try.prog [0, 2, 3, 4, 7, 15] Try.f76 = some c_slices_Max_int_int := by kernel_rfl
theorem e_matrix_invert_1 : compFn Try.prog [0, 1] Try.f81 = some c_matrix_invert_1 := by kernel_rfl
theorem e_slices_Concat_int_int : compFn Try.prog [0, 2, 3, 5, 6, 8, 9, 10, 11, 12, 20, 25, 26, 27, 28] Try.f82 = some c_slices_Concat_int_int := by kernel_rfl
theorem e_matrix_work_pivot : compFn Try.prog [0, 1, 4, 5, 13, 26, 29] Try.f83 = some c_matrix_work_pivot := by kernel_rfl
theorem e_matrix_work_clear : compFn Try.prog [0, 1, 4, 6, 7, 85, 86, 87, 88, 101] Try.f84 = some c_matrix_work_clear := by kernel_rfl
theorem e_slices_Clone_int_int : compFn Try.prog [0, 2, 4] Try.f85 = some c_slices_Clone_int_int := by kernel_rfl
theorem e_prime_Is : compFn Try.prog [0, 2] Try.f86 = some c_prime_Is := by kernel_rfl
theorem e_matrix_plus_1 : compFn Try.prog [0, 1, 2, 3, 6] Try.f88 = some c_matrix_plus_1 := by kernel_rfl
theorem e_prime_Inv : compFn Try.prog [0, 1, 4, 5, 6, 14] Try.f90 = some c_prime_Inv := by kernel_rfl
theorem e_slices_Grow_int_int : compFn Try.prog [0, 1, 4, 6, 16] Try.f93 = some c_slices_Grow_int_int := by kernel_rfl
theorem e_prime_divides : compFn Try.prog [0, 2, 3, 8, 14] Try.f94 = some c_prime_divides := by kernel_rfl
theorem e_prime_unit : compFn Try.prog [0, 1, 4, 5, 8, 13] Try.f95 = some c_prime_unit := by kernel_rfl
theorem e_prime_to : compFn Try.prog [0, 1, 2, 6] Try.f96 = some c_prime_to := by kernel_rfl
theorem e_prime_residue : compFn Try.prog [0, 1, 4, 9] Try.f98 = some c_prime_residue := by kernel_rfl
theorem e_prime_power_int : compFn Try.prog [0, 1, 2, 3, 8, 10, 15] Try.f99 = some c_prime_power_int := by kernel_rfl
theorem e_prime_modulo : compFn Try.prog [0, 1, 2] Try.f100 = some c_prime_modulo := by kernel_rfl
theorem e_prime_modulo_1 : compFn Try.prog [0, 1, 2, 5] Try.f101 = some c_prime_modulo_1 := by kernel_rfl
theorem pok : POk Try.prog T := by
  unfold T tab
  refine POk_find_cons Try.func4 e_law04_MatrixActs (by kernel_rfl) ?_
  refine POk_find_cons Try.func11 e_law04_lives (by kernel_rfl) ?_
  refine POk_find_cons Try.func13 e_matrix_Order (by kernel_rfl) ?_
  refine POk_find_cons Try.func15 e_matrix_Perm (by kernel_rfl) ?_
  refine POk_find_cons Try.func17 e_kit_Same_int (by kernel_rfl) ?_
  refine POk_find_cons Try.func18 e_kit_Pick (by kernel_rfl) ?_
  refine POk_find_cons Try.func19 e_law04_drawn (by kernel_rfl) ?_
  refine POk_find_cons Try.func20 e_matrix_Mul (by kernel_rfl) ?_
  refine POk_find_cons Try.func21 e_matrix_Det (by kernel_rfl) ?_
  refine POk_find_cons Try.func22 e_kit_Fine (by kernel_rfl) ?_
  refine POk_find_cons Try.func23 e_kit_Mul (by kernel_rfl) ?_
  refine POk_find_cons Try.func24 e_kit_One (by kernel_rfl) ?_
  refine POk_find_cons Try.func27 e_matrix_Inv (by kernel_rfl) ?_
  refine POk_find_cons Try.func30 e_ref04_Same (by kernel_rfl) ?_
  refine POk_find_cons Try.func41 e_matrix_Check (by kernel_rfl) ?_
  refine POk_find_cons Try.func50 e_law04_of (by kernel_rfl) ?_
  refine POk_find_cons Try.func51 e_law04_is (by kernel_rfl) ?_
  refine POk_find_cons Try.func52 e_matrix_one (by kernel_rfl) ?_
  refine POk_find_cons Try.func53 e_matrix_mul (by kernel_rfl) ?_
  refine POk_find_cons Try.func54 e_slices_EqualFunc_int_int_int_int (by kernel_rfl) ?_
  refine POk_find_cons Try.func55 e_slices_Equal_int_int (by kernel_rfl) ?_
  refine POk_find_cons Try.func58 e_matrix_square (by kernel_rfl) ?_
  refine POk_find_cons Try.func59 e_matrix_invert (by kernel_rfl) ?_
  refine POk_find_cons Try.func60 e_matrix_apply (by kernel_rfl) ?_
  refine POk_find_cons Try.func62 e_kit_Taker_Take (by kernel_rfl) ?_
  refine POk_find_cons Try.func63 e_matrix_fit (by kernel_rfl) ?_
  refine POk_find_cons Try.func64 e_matrix_field (by kernel_rfl) ?_
  refine POk_find_cons Try.func66 e_kit_SameLists_int (by kernel_rfl) ?_
  refine POk_find_cons Try.func69 e_matrix_zip_int_int_int_x69 (by kernel_rfl) ?_
  refine POk_find_cons Try.func70 e_matrix_plus (by kernel_rfl) ?_
  refine POk_find_cons Try.func71 e_matrix_residue (by kernel_rfl) ?_
  refine POk_find_cons Try.func75 e_slices_Min_int_int (by kernel_rfl) ?_
  refine POk_find_cons Try.func76 e_slices_Max_int_int (by kernel_rfl) ?_
  refine POk_find_cons Try.func81 e_matrix_invert_1 (by kernel_rfl) ?_
  refine POk_find_cons Try.func82 e_slices_Concat_int_int (by kernel_rfl) ?_
  refine POk_find_cons Try.func83 e_matrix_work_pivot (by kernel_rfl) ?_
  refine POk_find_cons Try.func84 e_matrix_work_clear (by kernel_rfl) ?_
  refine POk_find_cons Try.func85 e_slices_Clone_int_int (by kernel_rfl) ?_
  refine POk_find_cons Try.func86 e_prime_Is (by kernel_rfl) ?_
  refine POk_find_cons Try.func88 e_matrix_plus_1 (by kernel_rfl) ?_
  refine POk_find_cons Try.func90 e_prime_Inv (by kernel_rfl) ?_
  refine POk_find_cons Try.func93 e_slices_Grow_int_int (by kernel_rfl) ?_
  refine POk_find_cons Try.func94 e_prime_divides (by kernel_rfl) ?_
  refine POk_find_cons Try.func95 e_prime_unit (by kernel_rfl) ?_
  refine POk_find_cons Try.func96 e_prime_to (by kernel_rfl) ?_
  refine POk_find_cons Try.func98 e_prime_residue (by kernel_rfl) ?_
  refine POk_find_cons Try.func99 e_prime_power_int (by kernel_rfl) ?_
  refine POk_find_cons Try.func100 e_prime_modulo (by kernel_rfl) ?_
  refine POk_find_cons Try.func101 e_prime_modulo_1 (by kernel_rfl) ?_
  exact POk_find_nil
end Go.Proofs.Ytonhijbeddcmpaa

