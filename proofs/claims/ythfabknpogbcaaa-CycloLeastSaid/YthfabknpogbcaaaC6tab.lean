/- Each function's code is what the compiler makes of it. -/
import Derived.Test.YthfabknpogbcaaaChecked
import Derived.KernelRfl
import Derived.Test.YthfabknpogbcaaaAy24
import Derived.Test.YthfabknpogbcaaaC6code
namespace Go.Proofs.Ythfabknpogbcaaa
open Go Go.Ay
set_option maxRecDepth 100000
theorem e_law06_CycloMakes : compFn Try.prog [0, 1, 2, 6, 7, 8, 9, 10, 11, 12, 13, 14, 15, 16, 17, 18, 19, 20, 21, 22, 24, 27] Try.f3 = some c_law06_CycloMakes := by kernel_rfl
theorem e_law06_CycloLeast : compFn Try.prog [0, 1, 2, 6, 7, 8, 9, 10, 11, 12, 13, 14, 15, 16, 17, 18, 19, 20, 22, 25, 42, 60, 114, 118, 130, 134, 159] Try.f4 = some c_law06_CycloLeast := by kernel_rfl
theorem e_law06_CycloGalois : compFn Try.prog [0, 1, 2, 3, 8, 9, 10, 11, 12, 13, 14, 15, 16, 17, 18, 19, 20, 21, 22, 23, 24, 25, 26, 27, 28, 29, 30, 31, 32, 33, 34, 35, 36, 37, 38, 39, 40, 41, 43, 46] Try.f5 = some c_law06_CycloGalois := by kernel_rfl
theorem e_law06_CycloSums : compFn Try.prog [0, 1, 2, 3, 8, 9, 10, 11, 12, 13, 14, 15, 16, 17, 18, 19, 20, 21, 22, 23, 24, 25, 26, 27, 28, 29, 30, 31, 32, 33, 35, 37, 40, 55, 88, 91, 166, 174, 184, 200] Try.f6 = some c_law06_CycloSums := by kernel_rfl
theorem e_law06_CycloRing : compFn Try.prog [0, 1, 2, 6, 7, 8, 9, 10, 11, 12, 13, 14, 15, 16, 17, 18, 19, 20, 21, 22, 23, 24, 25, 26, 27, 28, 29, 30, 31, 32, 33, 34, 35, 36, 37, 38, 39, 40, 41, 42, 43, 44, 45, 47, 50, 207, 271] Try.f7 = some c_law06_CycloRing := by kernel_rfl
theorem e_law06_CycloCalls : compFn Try.prog [0, 1, 2, 3, 4, 6, 7, 8, 9, 10, 11, 12, 13, 14, 15, 16, 17, 18, 19, 20, 21, 22, 23, 24, 25, 26, 27, 28, 29, 30, 31, 32, 33, 34, 36, 46] Try.f8 = some c_law06_CycloCalls := by kernel_rfl
theorem e_law06_CycloNames : compFn Try.prog [0, 1, 2, 3, 4, 5, 6, 8, 9, 10, 11, 12, 13, 14, 15, 16, 17, 18, 19, 20, 21, 22, 23, 24, 25, 26, 27, 28, 29, 30, 31, 32, 33, 34, 35, 36, 37, 38, 39, 40, 41, 42, 43, 44, 45, 46, 47, 48, 49, 51, 52, 53, 54, 56, 58, 59, 61] Try.f9 = some c_law06_CycloNames := by kernel_rfl
theorem e_law06_lives : compFn Try.prog [0, 1, 2, 3, 4, 5, 6] Try.f10 = some c_law06_lives := by kernel_rfl
theorem e_cyclo_Phi : compFn Try.prog [0, 2, 3, 9] Try.f11 = some c_cyclo_Phi := by kernel_rfl
theorem e_ref06_Phi : compFn Try.prog [0, 2, 3, 9] Try.f12 = some c_ref06_Phi := by kernel_rfl
theorem e_cyclo_Make : compFn Try.prog [0, 1, 4, 5, 6, 7, 8, 9, 17, 22, 28, 29, 30, 31] Try.f13 = some c_cyclo_Make := by kernel_rfl
theorem e_ref06_Make : compFn Try.prog [0, 1, 4, 5, 6, 7, 8, 16, 21, 30] Try.f14 = some c_ref06_Make := by kernel_rfl
theorem e_cyclo_Root : compFn Try.prog [0, 1, 4, 5, 6, 12] Try.f15 = some c_cyclo_Root := by kernel_rfl
theorem e_ref06_Root : compFn Try.prog [0, 1, 4, 5, 6, 12] Try.f16 = some c_ref06_Root := by kernel_rfl
theorem e_cyclo_Int : compFn Try.prog [0, 2, 3] Try.f17 = some c_cyclo_Int := by kernel_rfl
theorem e_ref06_Int : compFn Try.prog [0, 2, 3] Try.f18 = some c_ref06_Int := by kernel_rfl
theorem e_kit_Same_int : compFn Try.prog [0, 1, 4, 5, 10, 14, 25] Try.f19 = some c_kit_Same_int := by kernel_rfl
theorem e_law06_same : compFn Try.prog [0, 1, 2, 3, 4] Try.f20 = some c_law06_same := by kernel_rfl
theorem e_law06_order : compFn Try.prog [0, 2] Try.f21 = some c_law06_order := by kernel_rfl
theorem e_kit_Pick : compFn Try.prog [0, 1, 4, 9] Try.f22 = some c_kit_Pick := by kernel_rfl
theorem e_kit_Taker_Take : compFn Try.prog [0, 1, 4, 18] Try.f23 = some c_kit_Taker_Take := by kernel_rfl
theorem e_cyclo_Check : compFn Try.prog [0, 1, 2, 3, 11, 13, 24, 28] Try.f24 = some c_cyclo_Check := by kernel_rfl
theorem e_law06_odd : compFn Try.prog [0, 2, 3, 8, 14] Try.f25 = some c_law06_odd := by kernel_rfl
theorem e_cyclo_Galois : compFn Try.prog [0, 1, 2, 4, 5, 6, 7, 8, 9, 13, 24, 30, 31, 32, 33] Try.f26 = some c_cyclo_Galois := by kernel_rfl
theorem e_law06_prime : compFn Try.prog [0, 1, 4, 5, 6, 12, 18] Try.f27 = some c_law06_prime := by kernel_rfl
theorem e_law06_small : compFn Try.prog [0, 1, 4, 5, 6, 7, 14] Try.f28 = some c_law06_small := by kernel_rfl
theorem e_cyclo_Add : compFn Try.prog [0, 1, 2, 3, 4, 5, 6, 7, 8, 10, 11, 12, 20, 27, 28, 29, 30, 34, 35, 36, 37] Try.f29 = some c_cyclo_Add := by kernel_rfl
theorem e_cyclo_Mul : compFn Try.prog [0, 1, 2, 3, 4, 5, 6, 7, 8, 9, 10, 11, 12, 20, 26, 27, 28, 29, 34, 35, 36, 37] Try.f30 = some c_cyclo_Mul := by kernel_rfl
theorem e_cyclo_Conj : compFn Try.prog [0, 1, 2, 3] Try.f31 = some c_cyclo_Conj := by kernel_rfl
theorem e_law06_is : compFn Try.prog [0, 1, 2, 3, 4, 8] Try.f32 = some c_law06_is := by kernel_rfl
theorem e_cyclo_Rational : compFn Try.prog [0, 1, 2, 3, 11] Try.f33 = some c_cyclo_Rational := by kernel_rfl
theorem e_cyclo_Scale : compFn Try.prog [0, 1, 2, 4, 5, 6, 7, 8, 12, 16, 22, 23, 24] Try.f34 = some c_cyclo_Scale := by kernel_rfl
theorem e_cyclo_Quot : compFn Try.prog [0, 1, 2, 4, 5, 6, 7, 8, 9, 13, 17, 26, 27, 28, 29, 36] Try.f35 = some c_cyclo_Quot := by kernel_rfl
theorem e_ref06_Add : compFn Try.prog [0, 1, 2, 3, 4, 5, 6, 7, 8, 9, 10, 18, 27, 47] Try.f36 = some c_ref06_Add := by kernel_rfl
theorem e_ref06_Mul : compFn Try.prog [0, 1, 2, 3, 4, 5, 6, 7, 8, 9, 10, 18, 27, 34] Try.f37 = some c_ref06_Mul := by kernel_rfl
theorem e_ref06_Scale : compFn Try.prog [0, 1, 2, 4, 5, 6, 7, 8, 12, 17, 26] Try.f38 = some c_ref06_Scale := by kernel_rfl
theorem e_ref06_Quot : compFn Try.prog [0, 1, 2, 4, 5, 6, 7, 8, 12, 16, 25, 35] Try.f39 = some c_ref06_Quot := by kernel_rfl
theorem e_ref06_Galois : compFn Try.prog [0, 1, 2, 4, 5, 6, 7, 8, 12, 23, 32] Try.f40 = some c_ref06_Galois := by kernel_rfl
theorem e_ref06_Conj : compFn Try.prog [0, 1, 2, 3] Try.f41 = some c_ref06_Conj := by kernel_rfl
theorem e_ref06_Rational : compFn Try.prog [0, 1, 2, 3, 11] Try.f42 = some c_ref06_Rational := by kernel_rfl
theorem e_ref06_Check : compFn Try.prog [0, 1, 2, 3, 12, 22, 26] Try.f43 = some c_ref06_Check := by kernel_rfl
theorem e_cyclo_Cmp : compFn Try.prog [0, 1, 2, 3, 4] Try.f44 = some c_cyclo_Cmp := by kernel_rfl
theorem e_ref06_Cmp : compFn Try.prog [0, 1, 2, 3, 4, 5, 10, 28, 41, 60] Try.f45 = some c_ref06_Cmp := by kernel_rfl
theorem e_law06_root : compFn Try.prog [0, 1, 4, 5] Try.f46 = some c_law06_root := by kernel_rfl
theorem e_law06_bad : compFn Try.prog [0, 1, 2, 3, 6] Try.f47 = some c_law06_bad := by kernel_rfl
theorem e_cyclo_begin : compFn Try.prog [0] Try.f48 = some c_cyclo_begin := by kernel_rfl
theorem e_cyclo_table_phi : compFn Try.prog [0, 1, 4, 5, 6, 7, 8, 18, 30, 36] Try.f49 = some c_cyclo_table_phi := by kernel_rfl
theorem e_ref06_phi : compFn Try.prog [0, 2, 3, 4, 5, 6, 12, 31, 37] Try.f50 = some c_ref06_phi := by kernel_rfl
theorem e_slices_ContainsFunc_int_int : compFn Try.prog [0, 1, 4] Try.f51 = some c_slices_ContainsFunc_int_int := by kernel_rfl
theorem e_cyclo_over : compFn Try.prog [0, 2] Try.f52 = some c_cyclo_over := by kernel_rfl
theorem e_cyclo_made : compFn Try.prog [0, 1, 4, 5, 6, 7, 18] Try.f53 = some c_cyclo_made := by kernel_rfl
theorem e_ref06_over : compFn Try.prog [0, 2, 3, 7, 21] Try.f54 = some c_ref06_over := by kernel_rfl
theorem e_ref06_add : compFn Try.prog [0, 1, 2] Try.f55 = some c_ref06_add := by kernel_rfl
theorem e_ref06_made : compFn Try.prog [0, 1, 4, 5, 6, 14] Try.f56 = some c_ref06_made := by kernel_rfl
theorem e_cyclo_residue : compFn Try.prog [0, 1, 4] Try.f57 = some c_cyclo_residue := by kernel_rfl
theorem e_cyclo_table_least : compFn Try.prog [0, 1, 2, 3, 4, 5, 6, 7, 8, 9, 11, 12, 21] Try.f58 = some c_cyclo_table_least := by kernel_rfl
theorem e_cyclo_gcd : compFn Try.prog [0, 1, 4, 6] Try.f59 = some c_cyclo_gcd := by kernel_rfl
theorem e_cyclo_common : compFn Try.prog [0, 1, 2, 3, 4, 5, 6, 7, 15, 29] Try.f60 = some c_cyclo_common := by kernel_rfl
theorem e_slices_Clone_int_int : compFn Try.prog [0, 2, 4] Try.f61 = some c_slices_Clone_int_int := by kernel_rfl
theorem e_ref06_both : compFn Try.prog [0, 1, 2, 3, 4, 5, 6, 7, 8, 12, 17, 31] Try.f62 = some c_ref06_both := by kernel_rfl
theorem e_ref06_gcd : compFn Try.prog [0, 1, 4, 6] Try.f63 = some c_ref06_gcd := by kernel_rfl
theorem e_ref06_least : compFn Try.prog [0, 1, 4, 5, 6, 7, 8, 9, 12, 18, 21, 32, 40] Try.f64 = some c_ref06_least := by kernel_rfl
theorem e_cmp_Or_int : compFn Try.prog [0, 2, 3, 5, 6, 7, 8, 9, 14] Try.f65 = some c_cmp_Or_int := by kernel_rfl
theorem e_cmp_Compare_int : compFn Try.prog [0, 1, 4, 5, 6, 11, 12, 13, 16, 19] Try.f66 = some c_cmp_Compare_int := by kernel_rfl
theorem e_slices_Compare_int_int : compFn Try.prog [0, 1, 4, 5, 6, 7, 8, 9, 10, 11, 12, 19, 28, 35] Try.f67 = some c_slices_Compare_int_int := by kernel_rfl
theorem e_ref06_sign : compFn Try.prog [0, 2, 3] Try.f68 = some c_ref06_sign := by kernel_rfl
theorem e_cyclo_divide_int : compFn Try.prog [0, 1, 4, 5, 6, 7, 8, 9, 10, 19, 31, 44, 45, 46, 47] Try.f69 = some c_cyclo_divide_int := by kernel_rfl
theorem e_ref06_divide : compFn Try.prog [0, 1, 4, 5, 6, 7, 8, 9, 27, 42] Try.f70 = some c_ref06_divide := by kernel_rfl
theorem e_slices_IndexFunc_int_int : compFn Try.prog [0, 1, 4, 5, 7, 8, 9, 16] Try.f71 = some c_slices_IndexFunc_int_int := by kernel_rfl
theorem e_cyclo_table_reduced : compFn Try.prog [0, 1, 2, 6, 7, 9] Try.f72 = some c_cyclo_table_reduced := by kernel_rfl
theorem e_ref06_reduced : compFn Try.prog [0, 1, 4, 5, 7, 21] Try.f73 = some c_ref06_reduced := by kernel_rfl
theorem e_cyclo_primes : compFn Try.prog [0, 1, 2] Try.f74 = some c_cyclo_primes := by kernel_rfl
theorem e_cyclo_table_lower : compFn Try.prog [0, 1, 2, 3, 8, 9, 10, 11, 12, 13, 14, 16, 17, 18, 19, 20, 21, 23, 24, 25, 32, 33, 34, 45, 46, 47, 48, 49, 66, 67, 68, 69, 73, 87, 88, 89, 90, 114, 115, 116, 130, 131, 132, 133, 141, 145, 146, 147, 148] Try.f75 = some c_cyclo_table_lower := by kernel_rfl
theorem e_cmp_Or_api_Errno : compFn Try.prog [0, 2, 3, 5, 6, 7, 8, 9, 14] Try.f76 = some c_cmp_Or_api_Errno := by kernel_rfl
theorem e_ref06_lower : compFn Try.prog [0, 1, 2, 6, 7, 8, 9, 10, 11, 12, 13, 14, 15, 16, 17, 18, 19, 26, 30, 36, 48, 57, 65, 72, 83, 104, 118, 129, 136] Try.f77 = some c_ref06_lower := by kernel_rfl
theorem e_cmp_isNaN_int : compFn Try.prog [0, 2] Try.f78 = some c_cmp_isNaN_int := by kernel_rfl
theorem e_kit_Own_int : compFn Try.prog [0, 2] Try.f79 = some c_kit_Own_int := by kernel_rfl
theorem e_cyclo_primes_1 : compFn Try.prog [0, 1, 3, 5, 11, 15, 22] Try.f80 = some c_cyclo_primes_1 := by kernel_rfl
theorem e_cyclo_table_lower_1 : compFn Try.prog [0, 2] Try.f81 = some c_cyclo_table_lower_1 := by kernel_rfl
theorem e_cyclo_inverse : compFn Try.prog [0, 1, 4, 5, 13] Try.f82 = some c_cyclo_inverse := by kernel_rfl
theorem e_slices_Equal_int_int : compFn Try.prog [0, 1, 4, 5, 10, 12, 13, 14, 24] Try.f83 = some c_slices_Equal_int_int := by kernel_rfl
theorem pok : POk Try.prog T := by
  unfold T tab
  refine POk_find_cons Try.func3 e_law06_CycloMakes (by kernel_rfl) ?_
  refine POk_find_cons Try.func4 e_law06_CycloLeast (by kernel_rfl) ?_
  refine POk_find_cons Try.func5 e_law06_CycloGalois (by kernel_rfl) ?_
  refine POk_find_cons Try.func6 e_law06_CycloSums (by kernel_rfl) ?_
  refine POk_find_cons Try.func7 e_law06_CycloRing (by kernel_rfl) ?_
  refine POk_find_cons Try.func8 e_law06_CycloCalls (by kernel_rfl) ?_
  refine POk_find_cons Try.func9 e_law06_CycloNames (by kernel_rfl) ?_
  refine POk_find_cons Try.func10 e_law06_lives (by kernel_rfl) ?_
  refine POk_find_cons Try.func11 e_cyclo_Phi (by kernel_rfl) ?_
  refine POk_find_cons Try.func12 e_ref06_Phi (by kernel_rfl) ?_
  refine POk_find_cons Try.func13 e_cyclo_Make (by kernel_rfl) ?_
  refine POk_find_cons Try.func14 e_ref06_Make (by kernel_rfl) ?_
  refine POk_find_cons Try.func15 e_cyclo_Root (by kernel_rfl) ?_
  refine POk_find_cons Try.func16 e_ref06_Root (by kernel_rfl) ?_
  refine POk_find_cons Try.func17 e_cyclo_Int (by kernel_rfl) ?_
  refine POk_find_cons Try.func18 e_ref06_Int (by kernel_rfl) ?_
  refine POk_find_cons Try.func19 e_kit_Same_int (by kernel_rfl) ?_
  refine POk_find_cons Try.func20 e_law06_same (by kernel_rfl) ?_
  refine POk_find_cons Try.func21 e_law06_order (by kernel_rfl) ?_
  refine POk_find_cons Try.func22 e_kit_Pick (by kernel_rfl) ?_
  refine POk_find_cons Try.func23 e_kit_Taker_Take (by kernel_rfl) ?_
  refine POk_find_cons Try.func24 e_cyclo_Check (by kernel_rfl) ?_
  refine POk_find_cons Try.func25 e_law06_odd (by kernel_rfl) ?_
  refine POk_find_cons Try.func26 e_cyclo_Galois (by kernel_rfl) ?_
  refine POk_find_cons Try.func27 e_law06_prime (by kernel_rfl) ?_
  refine POk_find_cons Try.func28 e_law06_small (by kernel_rfl) ?_
  refine POk_find_cons Try.func29 e_cyclo_Add (by kernel_rfl) ?_
  refine POk_find_cons Try.func30 e_cyclo_Mul (by kernel_rfl) ?_
  refine POk_find_cons Try.func31 e_cyclo_Conj (by kernel_rfl) ?_
  refine POk_find_cons Try.func32 e_law06_is (by kernel_rfl) ?_
  refine POk_find_cons Try.func33 e_cyclo_Rational (by kernel_rfl) ?_
  refine POk_find_cons Try.func34 e_cyclo_Scale (by kernel_rfl) ?_
  refine POk_find_cons Try.func35 e_cyclo_Quot (by kernel_rfl) ?_
  refine POk_find_cons Try.func36 e_ref06_Add (by kernel_rfl) ?_
  refine POk_find_cons Try.func37 e_ref06_Mul (by kernel_rfl) ?_
  refine POk_find_cons Try.func38 e_ref06_Scale (by kernel_rfl) ?_
  refine POk_find_cons Try.func39 e_ref06_Quot (by kernel_rfl) ?_
  refine POk_find_cons Try.func40 e_ref06_Galois (by kernel_rfl) ?_
  refine POk_find_cons Try.func41 e_ref06_Conj (by kernel_rfl) ?_
  refine POk_find_cons Try.func42 e_ref06_Rational (by kernel_rfl) ?_
  refine POk_find_cons Try.func43 e_ref06_Check (by kernel_rfl) ?_
  refine POk_find_cons Try.func44 e_cyclo_Cmp (by kernel_rfl) ?_
  refine POk_find_cons Try.func45 e_ref06_Cmp (by kernel_rfl) ?_
  refine POk_find_cons Try.func46 e_law06_root (by kernel_rfl) ?_
  refine POk_find_cons Try.func47 e_law06_bad (by kernel_rfl) ?_
  refine POk_find_cons Try.func48 e_cyclo_begin (by kernel_rfl) ?_
  refine POk_find_cons Try.func49 e_cyclo_table_phi (by kernel_rfl) ?_
  refine POk_find_cons Try.func50 e_ref06_phi (by kernel_rfl) ?_
  refine POk_find_cons Try.func51 e_slices_ContainsFunc_int_int (by kernel_rfl) ?_
  refine POk_find_cons Try.func52 e_cyclo_over (by kernel_rfl) ?_
  refine POk_find_cons Try.func53 e_cyclo_made (by kernel_rfl) ?_
  refine POk_find_cons Try.func54 e_ref06_over (by kernel_rfl) ?_
  refine POk_find_cons Try.func55 e_ref06_add (by kernel_rfl) ?_
  refine POk_find_cons Try.func56 e_ref06_made (by kernel_rfl) ?_
  refine POk_find_cons Try.func57 e_cyclo_residue (by kernel_rfl) ?_
  refine POk_find_cons Try.func58 e_cyclo_table_least (by kernel_rfl) ?_
  refine POk_find_cons Try.func59 e_cyclo_gcd (by kernel_rfl) ?_
  refine POk_find_cons Try.func60 e_cyclo_common (by kernel_rfl) ?_
  refine POk_find_cons Try.func61 e_slices_Clone_int_int (by kernel_rfl) ?_
  refine POk_find_cons Try.func62 e_ref06_both (by kernel_rfl) ?_
  refine POk_find_cons Try.func63 e_ref06_gcd (by kernel_rfl) ?_
  refine POk_find_cons Try.func64 e_ref06_least (by kernel_rfl) ?_
  refine POk_find_cons Try.func65 e_cmp_Or_int (by kernel_rfl) ?_
  refine POk_find_cons Try.func66 e_cmp_Compare_int (by kernel_rfl) ?_
  refine POk_find_cons Try.func67 e_slices_Compare_int_int (by kernel_rfl) ?_
  refine POk_find_cons Try.func68 e_ref06_sign (by kernel_rfl) ?_
  refine POk_find_cons Try.func69 e_cyclo_divide_int (by kernel_rfl) ?_
  refine POk_find_cons Try.func70 e_ref06_divide (by kernel_rfl) ?_
  refine POk_find_cons Try.func71 e_slices_IndexFunc_int_int (by kernel_rfl) ?_
  refine POk_find_cons Try.func72 e_cyclo_table_reduced (by kernel_rfl) ?_
  refine POk_find_cons Try.func73 e_ref06_reduced (by kernel_rfl) ?_
  refine POk_find_cons Try.func74 e_cyclo_primes (by kernel_rfl) ?_
  refine POk_find_cons Try.func75 e_cyclo_table_lower (by kernel_rfl) ?_
  refine POk_find_cons Try.func76 e_cmp_Or_api_Errno (by kernel_rfl) ?_
  refine POk_find_cons Try.func77 e_ref06_lower (by kernel_rfl) ?_
  refine POk_find_cons Try.func78 e_cmp_isNaN_int (by kernel_rfl) ?_
  refine POk_find_cons Try.func79 e_kit_Own_int (by kernel_rfl) ?_
  refine POk_find_cons Try.func80 e_cyclo_primes_1 (by kernel_rfl) ?_
  refine POk_find_cons Try.func81 e_cyclo_table_lower_1 (by kernel_rfl) ?_
  refine POk_find_cons Try.func82 e_cyclo_inverse (by kernel_rfl) ?_
  refine POk_find_cons Try.func83 e_slices_Equal_int_int (by kernel_rfl) ?_
  exact POk_find_nil
end Go.Proofs.Ythfabknpogbcaaa
