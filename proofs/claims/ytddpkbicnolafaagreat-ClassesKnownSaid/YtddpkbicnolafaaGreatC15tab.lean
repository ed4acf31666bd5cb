/- Each function's code is what the compiler makes of it. -/
import Derived.Test.YtddpkbicnolafaaGreatChecked
import Derived.KernelRfl
import Derived.Test.YtddpkbicnolafaaGreatAy24
import Derived.Test.YtddpkbicnolafaaGreatC15code
namespace Go.Proofs.YtddpkbicnolafaaGreat
open Go Go.Ay
set_option maxRecDepth 100000
theorem e_law15_ClassesKnown : compFn Tryz.prog [0, 1, 2, 3, 4, 5, 6, 7, 8, 9, 10, 11, 12, 13, 14, 15, 16, 17, 18, 19, 20, 21, 22, 23, 24, 25, 26, 27, 28, 30, 31] Tryz.f6 = some c_law15_ClassesKnown := by kernel_rfl
theorem e_law15_awake : compFn Tryz.prog [0, 1, 2, 4, 5, 6, 7, 8, 9] Tryz.f11 = some c_law15_awake := by kernel_rfl
theorem e_classes_Powers : compFn Tryz.prog [0, 1, 2, 4, 5, 6, 7, 8, 9, 10, 11, 18, 29, 30, 31, 32] Tryz.f12 = some c_classes_Powers := by kernel_rfl
theorem e_classes_Exponent : compFn Tryz.prog [0, 1, 2, 3, 4, 5, 6, 8, 9, 10, 17, 22, 23, 24, 25, 33] Tryz.f14 = some c_classes_Exponent := by kernel_rfl
theorem e_classes_Real : compFn Tryz.prog [0, 1, 2, 3, 4, 5, 6, 7, 8, 15, 26, 27, 28, 29] Tryz.f16 = some c_classes_Real := by kernel_rfl
theorem e_kit_Same_int : compFn Tryz.prog [0, 1, 4, 5, 10, 14, 25] Tryz.f18 = some c_kit_Same_int := by kernel_rfl
theorem e_kit_Same_bool : compFn Tryz.prog [0, 1, 4, 5, 10, 14, 25] Tryz.f19 = some c_kit_Same_bool := by kernel_rfl
theorem e_classes_List : compFn Tryz.prog [0, 1, 2, 3, 4, 5, 6, 8, 15, 20, 21, 22, 23] Tryz.f20 = some c_classes_List := by kernel_rfl
theorem e_classes_Map : compFn Tryz.prog [0, 1, 2, 3, 4, 5, 12] Tryz.f22 = some c_classes_Map := by kernel_rfl
theorem e_classes_Find : compFn Tryz.prog [0, 1, 2, 4, 5, 6, 7, 8, 9, 10, 17, 22, 28, 40] Tryz.f24 = some c_classes_Find := by kernel_rfl
theorem e_law15_sameClasses : compFn Tryz.prog [0, 1, 4, 5, 10, 14, 54] Tryz.f26 = some c_law15_sameClasses := by kernel_rfl
theorem e_classes_Centraliser : compFn Tryz.prog [0, 1, 2, 4, 5, 6, 7, 8, 9, 10, 13, 14, 16, 18, 26, 39, 74, 75, 76, 77, 87, 95, 103] Tryz.f27 = some c_classes_Centraliser := by kernel_rfl
theorem e_classes_Elements : compFn Tryz.prog [0, 1, 2, 4, 5, 6, 7, 8, 10, 17, 29, 37, 38, 39, 40] Tryz.f29 = some c_classes_Elements := by kernel_rfl
theorem e_kit_SamePerms : compFn Tryz.prog [0, 1, 4, 5, 10, 14, 26] Tryz.f32 = some c_kit_SamePerms := by kernel_rfl
theorem e_law15_groups : compFn Tryz.prog [0, 1, 2] Tryz.f33 = some c_law15_groups := by kernel_rfl
theorem e_kit_SameLists_int : compFn Tryz.prog [0, 1, 4, 5, 10, 14, 26] Tryz.f34 = some c_kit_SameLists_int := by kernel_rfl
theorem e_kit_Mul : compFn Tryz.prog [0, 1, 4, 5, 6, 10] Tryz.f40 = some c_kit_Mul := by kernel_rfl
theorem e_kit_Inv : compFn Tryz.prog [0, 2, 3, 4, 11] Tryz.f41 = some c_kit_Inv := by kernel_rfl
theorem e_ref08_Make : compFn Tryz.prog [0, 1, 4, 5, 6, 7, 8, 9, 15, 19, 24, 33, 42, 49] Tryz.f44 = some c_ref08_Make := by kernel_rfl
theorem e_classes_of : compFn Tryz.prog [0, 1, 2, 3, 4, 5, 6, 7, 8, 9, 11, 12, 13, 14, 15, 17, 18, 19, 20, 22, 23, 25, 32, 43, 44, 45, 46, 66, 67, 68, 69, 76, 85, 88, 89, 90, 91, 117, 158, 159, 160, 161, 166, 167, 168, 169] Tryz.f45 = some c_classes_of := by kernel_rfl
theorem e_classes_group_find : compFn Tryz.prog [0, 1, 4] Tryz.f46 = some c_classes_group_find := by kernel_rfl
theorem e_classes_power_classes_element : compFn Tryz.prog [0, 1, 2, 6, 8, 13] Tryz.f47 = some c_classes_power_classes_element := by kernel_rfl
theorem e_classes_element_inverse : compFn Tryz.prog [0, 2, 3, 4, 5, 9, 10, 11, 12] Tryz.f50 = some c_classes_element_inverse := by kernel_rfl
theorem e_kit_Own_int : compFn Tryz.prog [0, 2] Tryz.f51 = some c_kit_Own_int := by kernel_rfl
theorem e_perm_Check : compFn Tryz.prog [0, 2, 3, 5, 13, 14, 15, 16, 17, 32] Tryz.f52 = some c_perm_Check := by kernel_rfl
theorem e_classes_element_word : compFn Tryz.prog [0, 2, 3, 4, 5, 9, 10, 11, 12] Tryz.f53 = some c_classes_element_word := by kernel_rfl
theorem e_ref01_Check : compFn Tryz.prog [0, 2, 10, 15] Tryz.f54 = some c_ref01_Check := by kernel_rfl
theorem e_chain_Make : compFn Tryz.prog [0, 1, 4, 5, 7, 8, 14, 18, 20, 21, 22, 23, 29, 35] Tryz.f55 = some c_chain_Make := by kernel_rfl
theorem e_rank_Size : compFn Tryz.prog [0, 1, 2, 3, 4, 5, 6, 10, 18] Tryz.f56 = some c_rank_Size := by kernel_rfl
theorem e_slices_Equal_classes_element_int : compFn Tryz.prog [0, 1, 4, 5, 10, 12, 13, 14, 24] Tryz.f57 = some c_slices_Equal_classes_element_int := by kernel_rfl
theorem e_classes_element_times : compFn Tryz.prog [0, 1, 4, 5, 6, 7, 11, 12, 13, 14] Tryz.f58 = some c_classes_element_times := by kernel_rfl
theorem e_chain_In : compFn Tryz.prog [0, 1, 2, 4, 5, 6, 8, 13] Tryz.f59 = some c_chain_In := by kernel_rfl
theorem e_chain_Strong : compFn Tryz.prog [0, 1, 2, 3, 4, 5, 7, 9, 13, 16, 17, 18, 20, 21, 22, 23] Tryz.f60 = some c_chain_Strong := by kernel_rfl
theorem e_kit_One : compFn Tryz.prog [0, 2, 3, 4, 7] Tryz.f63 = some c_kit_One := by kernel_rfl
theorem e_ref08_empty : compFn Tryz.prog [0, 2, 3, 4, 7] Tryz.f67 = some c_ref08_empty := by kernel_rfl
theorem e_ref08_Table_insert : compFn Tryz.prog [0, 1, 4, 5, 6, 10, 27, 31] Tryz.f68 = some c_ref08_Table_insert := by kernel_rfl
theorem e_ref08_Table_close : compFn Tryz.prog [0, 2, 3, 4, 5, 6, 7, 13, 18, 22, 35, 55] Tryz.f69 = some c_ref08_Table_close := by kernel_rfl
theorem e_ref08_Table_chain : compFn Tryz.prog [0, 2, 3, 4, 5, 6, 7, 14, 23] Tryz.f70 = some c_ref08_Table_chain := by kernel_rfl
theorem e_rank_List : compFn Tryz.prog [0, 1, 2, 3, 4, 5, 6, 10, 16, 17, 20] Tryz.f71 = some c_rank_List := by kernel_rfl
theorem e_slices_Sort_int_int : compFn Tryz.prog [0, 2] Tryz.f72 = some c_slices_Sort_int_int := by kernel_rfl
theorem e_perm_Order : compFn Tryz.prog [0, 2, 3, 4, 5, 6, 11, 14, 15] Tryz.f73 = some c_perm_Order := by kernel_rfl
theorem e_slices_SortFunc_classes_class_classes_class : compFn Tryz.prog [0, 1, 4] Tryz.f74 = some c_slices_SortFunc_classes_class_classes_class := by kernel_rfl
theorem e_classes_of_1 : compFn Tryz.prog [0, 1, 2, 3, 4, 5, 6, 7] Tryz.f75 = some c_classes_of_1 := by kernel_rfl
theorem e_classes_class_order : compFn Tryz.prog [0, 1, 2, 3, 4] Tryz.f76 = some c_classes_class_order := by kernel_rfl
theorem e_classes_class_size : compFn Tryz.prog [0, 1, 2, 3, 4] Tryz.f77 = some c_classes_class_size := by kernel_rfl
theorem e_classes_class_first : compFn Tryz.prog [0, 1, 2, 3, 4] Tryz.f78 = some c_classes_class_first := by kernel_rfl
theorem e_cmp_Or_int : compFn Tryz.prog [0, 2, 3, 5, 6, 7, 8, 9, 14] Tryz.f79 = some c_cmp_Or_int := by kernel_rfl
theorem e_kit_Fine : compFn Tryz.prog [0, 1, 4, 5, 6, 10, 15, 39] Tryz.f85 = some c_kit_Fine := by kernel_rfl
theorem e_chain_build : compFn Tryz.prog [0, 1, 4, 5, 7, 10, 11, 12, 13] Tryz.f86 = some c_chain_build := by kernel_rfl
theorem e_chain_tower_chain : compFn Tryz.prog [0, 2, 3, 4, 5, 6, 8, 18, 19, 20, 32, 33, 34, 35] Tryz.f87 = some c_chain_tower_chain := by kernel_rfl
theorem e_chain_Check : compFn Tryz.prog [0, 1, 2, 3, 4, 5, 6, 8, 16, 28, 30, 31, 32, 49, 50, 51, 52, 53, 64, 76] Tryz.f88 = some c_chain_Check := by kernel_rfl
theorem e_rank_sizes : compFn Tryz.prog [0, 1, 2, 3, 4, 5, 6, 19, 35] Tryz.f89 = some c_rank_sizes := by kernel_rfl
theorem e_chain_both : compFn Tryz.prog [0, 1, 2, 4, 5, 6, 10, 15, 21] Tryz.f90 = some c_chain_both := by kernel_rfl
theorem e_chain_sift : compFn Tryz.prog [0, 1, 2, 3, 4, 5, 6, 7, 8, 9, 13, 14, 15, 30] Tryz.f91 = some c_chain_sift := by kernel_rfl
theorem e_chain_reps : compFn Tryz.prog [0, 1, 2] Tryz.f92 = some c_chain_reps := by kernel_rfl
theorem e_slices_Clone_api_Perm_int : compFn Tryz.prog [0, 2, 4] Tryz.f93 = some c_slices_Clone_api_Perm_int := by kernel_rfl
theorem e_ref08_Table_entries : compFn Tryz.prog [0, 2, 3, 4, 5, 9, 15, 25] Tryz.f96 = some c_ref08_Table_entries := by kernel_rfl
theorem e_ref08_Table_fresh : compFn Tryz.prog [0, 1, 4, 5, 6, 7, 8, 9, 15, 25, 38] Tryz.f97 = some c_ref08_Table_fresh := by kernel_rfl
theorem e_ref08_Table_orbit : compFn Tryz.prog [0, 1, 4, 5, 6, 11, 26] Tryz.f98 = some c_ref08_Table_orbit := by kernel_rfl
theorem e_ref08_Table_least : compFn Tryz.prog [0, 1, 2, 6, 7, 8, 9, 10, 11, 17, 30, 40, 54, 61] Tryz.f99 = some c_ref08_Table_least := by kernel_rfl
theorem e_rank_elements : compFn Tryz.prog [0, 1, 2, 3, 4, 5, 6] Tryz.f100 = some c_rank_elements := by kernel_rfl
theorem e_rank_one : compFn Tryz.prog [0, 2, 3, 4, 8, 9, 10] Tryz.f101 = some c_rank_one := by kernel_rfl
theorem e_slices_pdqsortOrdered_int : compFn Tryz.prog [0, 1, 2, 3, 8, 9, 10, 11, 12, 13, 14, 15, 16, 17, 18, 23, 29, 35, 50, 68, 72, 87, 113] Tryz.f102 = some c_slices_pdqsortOrdered_int := by kernel_rfl
theorem e_math_bits_Len : compFn Tryz.prog [0, 2] Tryz.f103 = some c_math_bits_Len := by kernel_rfl
theorem e_perm_first : compFn Tryz.prog [0, 2, 4, 5, 7, 8, 9, 10, 11, 17, 20, 21, 22, 23, 32] Tryz.f104 = some c_perm_first := by kernel_rfl
theorem e_perm_cycles : compFn Tryz.prog [0, 1, 2] Tryz.f105 = some c_perm_cycles := by kernel_rfl
theorem e_perm_gcd : compFn Tryz.prog [0, 1, 4, 6] Tryz.f106 = some c_perm_gcd := by kernel_rfl
theorem e_slices_pdqsortCmpFunc_classes_class : compFn Tryz.prog [0, 1, 2, 3, 4, 10, 11, 12, 13, 14, 15, 16, 17, 18, 19, 20, 25, 32, 39, 56, 75, 80, 97, 125] Tryz.f107 = some c_slices_pdqsortCmpFunc_classes_class := by kernel_rfl
theorem e_cmp_Compare_int : compFn Tryz.prog [0, 1, 4, 5, 6, 11, 12, 13, 16, 19] Tryz.f108 = some c_cmp_Compare_int := by kernel_rfl
theorem e_chain_newTower : compFn Tryz.prog [0, 2, 3, 4, 5, 15, 16, 17] Tryz.f114 = some c_chain_newTower := by kernel_rfl
theorem e_chain_tower_add : compFn Tryz.prog [0, 1, 2, 6, 7, 8, 9, 22, 26, 50] Tryz.f115 = some c_chain_tower_add := by kernel_rfl
theorem e_slices_Sorted_int : compFn Tryz.prog [0, 2, 3] Tryz.f116 = some c_slices_Sorted_int := by kernel_rfl
theorem e_slices_Values_int_int : compFn Tryz.prog [0, 1, 2] Tryz.f117 = some c_slices_Values_int_int := by kernel_rfl
theorem e_chain_tower_least : compFn Tryz.prog [0, 1, 2, 6, 7, 8, 10, 18, 29, 30, 31, 32, 43, 48] Tryz.f118 = some c_chain_tower_least := by kernel_rfl
theorem e_chain_same : compFn Tryz.prog [0, 1, 2, 3, 4] Tryz.f119 = some c_chain_same := by kernel_rfl
theorem e_slices_BinarySearch_int_int : compFn Tryz.prog [0, 1, 4, 5, 6, 7, 8, 9, 15, 27] Tryz.f120 = some c_slices_BinarySearch_int_int := by kernel_rfl
theorem e_chain_mul : compFn Tryz.prog [0, 1, 4, 5, 6, 7, 11, 12, 13, 14] Tryz.f121 = some c_chain_mul := by kernel_rfl
theorem e_chain_inv : compFn Tryz.prog [0, 2, 3, 4, 5, 9, 10, 11, 12] Tryz.f122 = some c_chain_inv := by kernel_rfl
theorem e_chain_reps_1 : compFn Tryz.prog [0, 1, 3, 4, 6, 7, 8, 9, 17] Tryz.f123 = some c_chain_reps_1 := by kernel_rfl
theorem e_rank_elements_1 : compFn Tryz.prog [0, 1, 2, 3, 4, 6, 7, 11, 18, 19, 20, 21, 32, 33, 37] Tryz.f124 = some c_rank_elements_1 := by kernel_rfl
theorem e_rank_choices : compFn Tryz.prog [0, 1, 2, 3, 6, 7, 9, 21, 22, 23, 24] Tryz.f125 = some c_rank_choices := by kernel_rfl
theorem e_rank_step : compFn Tryz.prog [0, 1, 2, 3, 4, 5, 7, 8, 9] Tryz.f126 = some c_rank_step := by kernel_rfl
theorem e_slices_insertionSortOrdered_int : compFn Tryz.prog [0, 1, 2, 6, 7, 12, 30] Tryz.f127 = some c_slices_insertionSortOrdered_int := by kernel_rfl
theorem e_slices_heapSortOrdered_int : compFn Tryz.prog [0, 1, 2, 6, 7, 8, 9, 10, 19, 30] Tryz.f128 = some c_slices_heapSortOrdered_int := by kernel_rfl
theorem e_slices_breakPatternsOrdered_int : compFn Tryz.prog [0, 1, 2, 6, 7, 8, 9, 10, 15, 33, 43] Tryz.f129 = some c_slices_breakPatternsOrdered_int := by kernel_rfl
theorem e_slices_choosePivotOrdered_int : compFn Tryz.prog [0, 1, 2, 6, 7, 8, 9, 10, 11, 12, 32, 34, 49, 51, 54] Tryz.f130 = some c_slices_choosePivotOrdered_int := by kernel_rfl
theorem e_slices_reverseRangeOrdered_int : compFn Tryz.prog [0, 1, 2, 6, 7, 13] Tryz.f131 = some c_slices_reverseRangeOrdered_int := by kernel_rfl
theorem e_slices_partialInsertionSortOrdered_int : compFn Tryz.prog [0, 1, 2, 6, 7, 8, 9, 10, 14, 32, 37, 41, 61, 65, 78, 98, 103, 116] Tryz.f132 = some c_slices_partialInsertionSortOrdered_int := by kernel_rfl
theorem e_cmp_Less_int : compFn Tryz.prog [0, 1, 4] Tryz.f133 = some c_cmp_Less_int := by kernel_rfl
theorem e_slices_partitionEqualOrdered_int : compFn Tryz.prog [0, 1, 2, 3, 8, 9, 10, 43, 59, 64] Tryz.f134 = some c_slices_partitionEqualOrdered_int := by kernel_rfl
theorem e_slices_partitionOrdered_int : compFn Tryz.prog [0, 1, 2, 3, 8, 9, 10, 11, 43, 60, 65, 112, 129, 134] Tryz.f135 = some c_slices_partitionOrdered_int := by kernel_rfl
theorem e_math_bits_Len32 : compFn Tryz.prog [0, 2, 4, 8] Tryz.f136 = some c_math_bits_Len32 := by kernel_rfl
theorem e_math_bits_Len64 : compFn Tryz.prog [0, 2, 4, 8, 14] Tryz.f137 = some c_math_bits_Len64 := by kernel_rfl
theorem e_perm_cycles_1 : compFn Tryz.prog [0, 1, 3, 4, 5, 6, 8, 9, 10, 16, 35] Tryz.f138 = some c_perm_cycles_1 := by kernel_rfl
theorem e_slices_insertionSortCmpFunc_classes_class : compFn Tryz.prog [0, 1, 2, 3, 8, 9, 14, 34] Tryz.f139 = some c_slices_insertionSortCmpFunc_classes_class := by kernel_rfl
theorem e_slices_heapSortCmpFunc_classes_class : compFn Tryz.prog [0, 1, 2, 3, 8, 9, 10, 11, 12, 21, 33] Tryz.f140 = some c_slices_heapSortCmpFunc_classes_class := by kernel_rfl
theorem e_slices_breakPatternsCmpFunc_classes_class : compFn Tryz.prog [0, 1, 2, 8, 9, 10, 11, 12, 17, 35, 45] Tryz.f141 = some c_slices_breakPatternsCmpFunc_classes_class := by kernel_rfl
theorem e_slices_choosePivotCmpFunc_classes_class : compFn Tryz.prog [0, 1, 2, 3, 8, 9, 10, 11, 12, 13, 14, 34, 36, 55, 57, 60] Tryz.f142 = some c_slices_choosePivotCmpFunc_classes_class := by kernel_rfl
theorem e_slices_reverseRangeCmpFunc_classes_class : compFn Tryz.prog [0, 1, 2, 8, 9, 15] Tryz.f143 = some c_slices_reverseRangeCmpFunc_classes_class := by kernel_rfl
theorem e_slices_partialInsertionSortCmpFunc_classes_class : compFn Tryz.prog [0, 1, 2, 3, 8, 9, 10, 11, 12, 16, 36, 41, 45, 65, 69, 84, 104, 109, 124] Tryz.f144 = some c_slices_partialInsertionSortCmpFunc_classes_class := by kernel_rfl
theorem e_slices_partitionEqualCmpFunc_classes_class : compFn Tryz.prog [0, 1, 2, 3, 4, 10, 11, 12, 47, 65, 70] Tryz.f145 = some c_slices_partitionEqualCmpFunc_classes_class := by kernel_rfl
theorem e_slices_partitionCmpFunc_classes_class : compFn Tryz.prog [0, 1, 2, 3, 4, 10, 11, 12, 13, 47, 66, 71, 120, 139, 144] Tryz.f146 = some c_slices_partitionCmpFunc_classes_class := by kernel_rfl
theorem e_cmp_isNaN_int : compFn Tryz.prog [0, 2] Tryz.f147 = some c_cmp_isNaN_int := by kernel_rfl
theorem e_chain_one : compFn Tryz.prog [0, 2, 3, 4, 8, 9, 10] Tryz.f148 = some c_chain_one := by kernel_rfl
theorem e_chain_tower_sift : compFn Tryz.prog [0, 1, 2, 6, 7, 8, 9, 16, 33, 41] Tryz.f149 = some c_chain_tower_sift := by kernel_rfl
theorem e_chain_tower_close : compFn Tryz.prog [0, 1, 4, 5, 6, 7, 8, 9, 22, 43, 84, 114] Tryz.f150 = some c_chain_tower_close := by kernel_rfl
theorem e_slices_Collect_int : compFn Tryz.prog [0, 2] Tryz.f151 = some c_slices_Collect_int := by kernel_rfl
theorem e_slices_Values_int_int_1 : compFn Tryz.prog [0, 1, 4, 5, 6, 7, 8, 14] Tryz.f152 = some c_slices_Values_int_int_1 := by kernel_rfl
theorem e_slices_EqualFunc_int_int_int_int : compFn Tryz.prog [0, 1, 2, 6, 7, 8, 9, 14, 15, 16, 17, 18, 30] Tryz.f153 = some c_slices_EqualFunc_int_int_int_int := by kernel_rfl
theorem e_slices_Equal_int_int : compFn Tryz.prog [0, 1, 4, 5, 10, 12, 13, 14, 24] Tryz.f154 = some c_slices_Equal_int_int := by kernel_rfl
theorem e_slices_EqualFunc_api_Perm_api_Perm_api_Perm_api_Perm : compFn Tryz.prog [0, 1, 2, 6, 7, 8, 9, 14, 15, 16, 17, 18, 30] Tryz.f155 = some c_slices_EqualFunc_api_Perm_api_Perm_api_Perm_api_Perm := by kernel_rfl
theorem e_chain_same_1 : compFn Tryz.prog [0, 1, 4] Tryz.f156 = some c_chain_same_1 := by kernel_rfl
theorem e_slices_EqualFunc_api_Perm_api_Perm_api_Perm_api_Perm_x157 : compFn Tryz.prog [0, 1, 2, 6, 7, 8, 9, 14, 15, 16, 17, 18, 30] Tryz.f157 = some c_slices_EqualFunc_api_Perm_api_Perm_api_Perm_api_Perm_x157 := by kernel_rfl
theorem e_chain_same_1_1 : compFn Tryz.prog [0, 1, 4] Tryz.f158 = some c_chain_same_1_1 := by kernel_rfl
theorem e_slices_Equal_api_Perm_int : compFn Tryz.prog [0, 1, 4, 5, 10, 12, 13, 14, 24] Tryz.f159 = some c_slices_Equal_api_Perm_int := by kernel_rfl
theorem e_slices_isNaN_int : compFn Tryz.prog [0, 2] Tryz.f160 = some c_slices_isNaN_int := by kernel_rfl
theorem e_slices_IndexFunc_int_int : compFn Tryz.prog [0, 1, 4, 5, 7, 8, 9, 16] Tryz.f161 = some c_slices_IndexFunc_int_int := by kernel_rfl
theorem e_rank_step_1 : compFn Tryz.prog [0, 1, 2, 4] Tryz.f162 = some c_rank_step_1 := by kernel_rfl
theorem e_rank_mul : compFn Tryz.prog [0, 1, 4, 5, 6, 7, 11, 12, 13, 14] Tryz.f163 = some c_rank_mul := by kernel_rfl
theorem e_slices_siftDownOrdered_int : compFn Tryz.prog [0, 1, 2, 3, 8, 9, 16, 36, 52] Tryz.f164 = some c_slices_siftDownOrdered_int := by kernel_rfl
theorem e_slices_nextPowerOfTwo : compFn Tryz.prog [0, 2] Tryz.f165 = some c_slices_nextPowerOfTwo := by kernel_rfl
theorem e_slices_xorshift_Next : compFn Tryz.prog [0, 2] Tryz.f166 = some c_slices_xorshift_Next := by kernel_rfl
theorem e_slices_medianAdjacentOrdered_int : compFn Tryz.prog [0, 1, 2, 6] Tryz.f167 = some c_slices_medianAdjacentOrdered_int := by kernel_rfl
theorem e_slices_medianOrdered_int : compFn Tryz.prog [0, 1, 2, 3, 4, 10] Tryz.f168 = some c_slices_medianOrdered_int := by kernel_rfl
theorem e_slices_siftDownCmpFunc_classes_class : compFn Tryz.prog [0, 1, 2, 3, 4, 10, 11, 18, 40, 58] Tryz.f169 = some c_slices_siftDownCmpFunc_classes_class := by kernel_rfl
theorem e_slices_medianAdjacentCmpFunc_classes_class : compFn Tryz.prog [0, 1, 2, 3, 8] Tryz.f170 = some c_slices_medianAdjacentCmpFunc_classes_class := by kernel_rfl
theorem e_slices_medianCmpFunc_classes_class : compFn Tryz.prog [0, 1, 2, 3, 4, 5, 12] Tryz.f171 = some c_slices_medianCmpFunc_classes_class := by kernel_rfl
theorem e_slices_AppendSeq_int_int : compFn Tryz.prog [0, 1, 2, 4, 5, 6, 7] Tryz.f172 = some c_slices_AppendSeq_int_int := by kernel_rfl
theorem e_slices_order2Ordered_int : compFn Tryz.prog [0, 1, 2, 3, 8, 9, 18] Tryz.f173 = some c_slices_order2Ordered_int := by kernel_rfl
theorem e_slices_order2CmpFunc_classes_class : compFn Tryz.prog [0, 1, 2, 3, 4, 10, 11, 22] Tryz.f174 = some c_slices_order2CmpFunc_classes_class := by kernel_rfl
theorem pok : POk Tryz.prog T := by
  unfold T tab
  refine POk_find_cons Tryz.func6 e_law15_ClassesKnown (by kernel_rfl) ?_
  refine POk_find_cons Tryz.func11 e_law15_awake (by kernel_rfl) ?_
  refine POk_find_cons Tryz.func12 e_classes_Powers (by kernel_rfl) ?_
  refine POk_find_cons Tryz.func14 e_classes_Exponent (by kernel_rfl) ?_
  refine POk_find_cons Tryz.func16 e_classes_Real (by kernel_rfl) ?_
  refine POk_find_cons Tryz.func18 e_kit_Same_int (by kernel_rfl) ?_
  refine POk_find_cons Tryz.func19 e_kit_Same_bool (by kernel_rfl) ?_
  refine POk_find_cons Tryz.func20 e_classes_List (by kernel_rfl) ?_
  refine POk_find_cons Tryz.func22 e_classes_Map (by kernel_rfl) ?_
  refine POk_find_cons Tryz.func24 e_classes_Find (by kernel_rfl) ?_
  refine POk_find_cons Tryz.func26 e_law15_sameClasses (by kernel_rfl) ?_
  refine POk_find_cons Tryz.func27 e_classes_Centraliser (by kernel_rfl) ?_
  refine POk_find_cons Tryz.func29 e_classes_Elements (by kernel_rfl) ?_
  refine POk_find_cons Tryz.func32 e_kit_SamePerms (by kernel_rfl) ?_
  refine POk_find_cons Tryz.func33 e_law15_groups (by kernel_rfl) ?_
  refine POk_find_cons Tryz.func34 e_kit_SameLists_int (by kernel_rfl) ?_
  refine POk_find_cons Tryz.func40 e_kit_Mul (by kernel_rfl) ?_
  refine POk_find_cons Tryz.func41 e_kit_Inv (by kernel_rfl) ?_
  refine POk_find_cons Tryz.func44 e_ref08_Make (by kernel_rfl) ?_
  refine POk_find_cons Tryz.func45 e_classes_of (by kernel_rfl) ?_
  refine POk_find_cons Tryz.func46 e_classes_group_find (by kernel_rfl) ?_
  refine POk_find_cons Tryz.func47 e_classes_power_classes_element (by kernel_rfl) ?_
  refine POk_find_cons Tryz.func50 e_classes_element_inverse (by kernel_rfl) ?_
  refine POk_find_cons Tryz.func51 e_kit_Own_int (by kernel_rfl) ?_
  refine POk_find_cons Tryz.func52 e_perm_Check (by kernel_rfl) ?_
  refine POk_find_cons Tryz.func53 e_classes_element_word (by kernel_rfl) ?_
  refine POk_find_cons Tryz.func54 e_ref01_Check (by kernel_rfl) ?_
  refine POk_find_cons Tryz.func55 e_chain_Make (by kernel_rfl) ?_
  refine POk_find_cons Tryz.func56 e_rank_Size (by kernel_rfl) ?_
  refine POk_find_cons Tryz.func57 e_slices_Equal_classes_element_int (by kernel_rfl) ?_
  refine POk_find_cons Tryz.func58 e_classes_element_times (by kernel_rfl) ?_
  refine POk_find_cons Tryz.func59 e_chain_In (by kernel_rfl) ?_
  refine POk_find_cons Tryz.func60 e_chain_Strong (by kernel_rfl) ?_
  refine POk_find_cons Tryz.func63 e_kit_One (by kernel_rfl) ?_
  refine POk_find_cons Tryz.func67 e_ref08_empty (by kernel_rfl) ?_
  refine POk_find_cons Tryz.func68 e_ref08_Table_insert (by kernel_rfl) ?_
  refine POk_find_cons Tryz.func69 e_ref08_Table_close (by kernel_rfl) ?_
  refine POk_find_cons Tryz.func70 e_ref08_Table_chain (by kernel_rfl) ?_
  refine POk_find_cons Tryz.func71 e_rank_List (by kernel_rfl) ?_
  refine POk_find_cons Tryz.func72 e_slices_Sort_int_int (by kernel_rfl) ?_
  refine POk_find_cons Tryz.func73 e_perm_Order (by kernel_rfl) ?_
  refine POk_find_cons Tryz.func74 e_slices_SortFunc_classes_class_classes_class (by kernel_rfl) ?_
  refine POk_find_cons Tryz.func75 e_classes_of_1 (by kernel_rfl) ?_
  refine POk_find_cons Tryz.func76 e_classes_class_order (by kernel_rfl) ?_
  refine POk_find_cons Tryz.func77 e_classes_class_size (by kernel_rfl) ?_
  refine POk_find_cons Tryz.func78 e_classes_class_first (by kernel_rfl) ?_
  refine POk_find_cons Tryz.func79 e_cmp_Or_int (by kernel_rfl) ?_
  refine POk_find_cons Tryz.func85 e_kit_Fine (by kernel_rfl) ?_
  refine POk_find_cons Tryz.func86 e_chain_build (by kernel_rfl) ?_
  refine POk_find_cons Tryz.func87 e_chain_tower_chain (by kernel_rfl) ?_
  refine POk_find_cons Tryz.func88 e_chain_Check (by kernel_rfl) ?_
  refine POk_find_cons Tryz.func89 e_rank_sizes (by kernel_rfl) ?_
  refine POk_find_cons Tryz.func90 e_chain_both (by kernel_rfl) ?_
  refine POk_find_cons Tryz.func91 e_chain_sift (by kernel_rfl) ?_
  refine POk_find_cons Tryz.func92 e_chain_reps (by kernel_rfl) ?_
  refine POk_find_cons Tryz.func93 e_slices_Clone_api_Perm_int (by kernel_rfl) ?_
  refine POk_find_cons Tryz.func96 e_ref08_Table_entries (by kernel_rfl) ?_
  refine POk_find_cons Tryz.func97 e_ref08_Table_fresh (by kernel_rfl) ?_
  refine POk_find_cons Tryz.func98 e_ref08_Table_orbit (by kernel_rfl) ?_
  refine POk_find_cons Tryz.func99 e_ref08_Table_least (by kernel_rfl) ?_
  refine POk_find_cons Tryz.func100 e_rank_elements (by kernel_rfl) ?_
  refine POk_find_cons Tryz.func101 e_rank_one (by kernel_rfl) ?_
  refine POk_find_cons Tryz.func102 e_slices_pdqsortOrdered_int (by kernel_rfl) ?_
  refine POk_find_cons Tryz.func103 e_math_bits_Len (by kernel_rfl) ?_
  refine POk_find_cons Tryz.func104 e_perm_first (by kernel_rfl) ?_
  refine POk_find_cons Tryz.func105 e_perm_cycles (by kernel_rfl) ?_
  refine POk_find_cons Tryz.func106 e_perm_gcd (by kernel_rfl) ?_
  refine POk_find_cons Tryz.func107 e_slices_pdqsortCmpFunc_classes_class (by kernel_rfl) ?_
  refine POk_find_cons Tryz.func108 e_cmp_Compare_int (by kernel_rfl) ?_
  refine POk_find_cons Tryz.func114 e_chain_newTower (by kernel_rfl) ?_
  refine POk_find_cons Tryz.func115 e_chain_tower_add (by kernel_rfl) ?_
  refine POk_find_cons Tryz.func116 e_slices_Sorted_int (by kernel_rfl) ?_
  refine POk_find_cons Tryz.func117 e_slices_Values_int_int (by kernel_rfl) ?_
  refine POk_find_cons Tryz.func118 e_chain_tower_least (by kernel_rfl) ?_
  refine POk_find_cons Tryz.func119 e_chain_same (by kernel_rfl) ?_
  refine POk_find_cons Tryz.func120 e_slices_BinarySearch_int_int (by kernel_rfl) ?_
  refine POk_find_cons Tryz.func121 e_chain_mul (by kernel_rfl) ?_
  refine POk_find_cons Tryz.func122 e_chain_inv (by kernel_rfl) ?_
  refine POk_find_cons Tryz.func123 e_chain_reps_1 (by kernel_rfl) ?_
  refine POk_find_cons Tryz.func124 e_rank_elements_1 (by kernel_rfl) ?_
  refine POk_find_cons Tryz.func125 e_rank_choices (by kernel_rfl) ?_
  refine POk_find_cons Tryz.func126 e_rank_step (by kernel_rfl) ?_
  refine POk_find_cons Tryz.func127 e_slices_insertionSortOrdered_int (by kernel_rfl) ?_
  refine POk_find_cons Tryz.func128 e_slices_heapSortOrdered_int (by kernel_rfl) ?_
  refine POk_find_cons Tryz.func129 e_slices_breakPatternsOrdered_int (by kernel_rfl) ?_
  refine POk_find_cons Tryz.func130 e_slices_choosePivotOrdered_int (by kernel_rfl) ?_
  refine POk_find_cons Tryz.func131 e_slices_reverseRangeOrdered_int (by kernel_rfl) ?_
  refine POk_find_cons Tryz.func132 e_slices_partialInsertionSortOrdered_int (by kernel_rfl) ?_
  refine POk_find_cons Tryz.func133 e_cmp_Less_int (by kernel_rfl) ?_
  refine POk_find_cons Tryz.func134 e_slices_partitionEqualOrdered_int (by kernel_rfl) ?_
  refine POk_find_cons Tryz.func135 e_slices_partitionOrdered_int (by kernel_rfl) ?_
  refine POk_find_cons Tryz.func136 e_math_bits_Len32 (by kernel_rfl) ?_
  refine POk_find_cons Tryz.func137 e_math_bits_Len64 (by kernel_rfl) ?_
  refine POk_find_cons Tryz.func138 e_perm_cycles_1 (by kernel_rfl) ?_
  refine POk_find_cons Tryz.func139 e_slices_insertionSortCmpFunc_classes_class (by kernel_rfl) ?_
  refine POk_find_cons Tryz.func140 e_slices_heapSortCmpFunc_classes_class (by kernel_rfl) ?_
  refine POk_find_cons Tryz.func141 e_slices_breakPatternsCmpFunc_classes_class (by kernel_rfl) ?_
  refine POk_find_cons Tryz.func142 e_slices_choosePivotCmpFunc_classes_class (by kernel_rfl) ?_
  refine POk_find_cons Tryz.func143 e_slices_reverseRangeCmpFunc_classes_class (by kernel_rfl) ?_
  refine POk_find_cons Tryz.func144 e_slices_partialInsertionSortCmpFunc_classes_class (by kernel_rfl) ?_
  refine POk_find_cons Tryz.func145 e_slices_partitionEqualCmpFunc_classes_class (by kernel_rfl) ?_
  refine POk_find_cons Tryz.func146 e_slices_partitionCmpFunc_classes_class (by kernel_rfl) ?_
  refine POk_find_cons Tryz.func147 e_cmp_isNaN_int (by kernel_rfl) ?_
  refine POk_find_cons Tryz.func148 e_chain_one (by kernel_rfl) ?_
  refine POk_find_cons Tryz.func149 e_chain_tower_sift (by kernel_rfl) ?_
  refine POk_find_cons Tryz.func150 e_chain_tower_close (by kernel_rfl) ?_
  refine POk_find_cons Tryz.func151 e_slices_Collect_int (by kernel_rfl) ?_
  refine POk_find_cons Tryz.func152 e_slices_Values_int_int_1 (by kernel_rfl) ?_
  refine POk_find_cons Tryz.func153 e_slices_EqualFunc_int_int_int_int (by kernel_rfl) ?_
  refine POk_find_cons Tryz.func154 e_slices_Equal_int_int (by kernel_rfl) ?_
  refine POk_find_cons Tryz.func155 e_slices_EqualFunc_api_Perm_api_Perm_api_Perm_api_Perm (by kernel_rfl) ?_
  refine POk_find_cons Tryz.func156 e_chain_same_1 (by kernel_rfl) ?_
  refine POk_find_cons Tryz.func157 e_slices_EqualFunc_api_Perm_api_Perm_api_Perm_api_Perm_x157 (by kernel_rfl) ?_
  refine POk_find_cons Tryz.func158 e_chain_same_1_1 (by kernel_rfl) ?_
  refine POk_find_cons Tryz.func159 e_slices_Equal_api_Perm_int (by kernel_rfl) ?_
  refine POk_find_cons Tryz.func160 e_slices_isNaN_int (by kernel_rfl) ?_
  refine POk_find_cons Tryz.func161 e_slices_IndexFunc_int_int (by kernel_rfl) ?_
  refine POk_find_cons Tryz.func162 e_rank_step_1 (by kernel_rfl) ?_
  refine POk_find_cons Tryz.func163 e_rank_mul (by kernel_rfl) ?_
  refine POk_find_cons Tryz.func164 e_slices_siftDownOrdered_int (by kernel_rfl) ?_
  refine POk_find_cons Tryz.func165 e_slices_nextPowerOfTwo (by kernel_rfl) ?_
  refine POk_find_cons Tryz.func166 e_slices_xorshift_Next (by kernel_rfl) ?_
  refine POk_find_cons Tryz.func167 e_slices_medianAdjacentOrdered_int (by kernel_rfl) ?_
  refine POk_find_cons Tryz.func168 e_slices_medianOrdered_int (by kernel_rfl) ?_
  refine POk_find_cons Tryz.func169 e_slices_siftDownCmpFunc_classes_class (by kernel_rfl) ?_
  refine POk_find_cons Tryz.func170 e_slices_medianAdjacentCmpFunc_classes_class (by kernel_rfl) ?_
  refine POk_find_cons Tryz.func171 e_slices_medianCmpFunc_classes_class (by kernel_rfl) ?_
  refine POk_find_cons Tryz.func172 e_slices_AppendSeq_int_int (by kernel_rfl) ?_
  refine POk_find_cons Tryz.func173 e_slices_order2Ordered_int (by kernel_rfl) ?_
  refine POk_find_cons Tryz.func174 e_slices_order2CmpFunc_classes_class (by kernel_rfl) ?_
  exact POk_find_nil
end Go.Proofs.YtddpkbicnolafaaGreat

