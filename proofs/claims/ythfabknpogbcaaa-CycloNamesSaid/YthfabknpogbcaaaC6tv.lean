/- Values. -/
import Derived.Test.YthfabknpogbcaaaC6r
namespace Go.Proofs.Ythfabknpogbcaaa
open Go Go.Ay
set_option maxRecDepth 100000
theorem names_val0 : (phiP 1).2 = 0 := by decide +kernel
theorem names_val1 : (phiP 12).2 = 0 := by decide +kernel
theorem names_val2 : (phiP 105).2 = 0 := by decide +kernel
theorem names_val3 : (phiP 121).2 = 2 := by decide +kernel
theorem names_val4 : (phiP 120).2 = 0 := by decide +kernel
theorem names_val5 : (phiP 1).1 = [-1, 1] := by decide +kernel
theorem names_val6 : (phiP 12).1 = [1, 0, -1, 0, 1] := by decide +kernel
theorem names_val7 : (phiP 105).1.length = 49 := by decide +kernel
theorem names_val8 : (phiP 120).1.length = 33 := by decide +kernel
theorem names_val9 : (phiP 105).1.getD 7 0 = -2 := by decide +kernel
theorem names_val10 : rootF 4 2 = ((1, [-1]), 0) := by decide +kernel
theorem names_val11 : rootF 5 (-1) = ((5, [-1, -1, -1, -1]), 0) := by decide +kernel
theorem names_val12 : rootF 8 9 = ((8, [0, 1, 0, 0]), 0) := by decide +kernel
theorem names_val13 : rootF 5 1 = ((5, [0, 1, 0, 0]), 0) := by decide +kernel
theorem names_val14 : rootF 5 4 = ((5, [-1, -1, -1, -1]), 0) := by decide +kernel
theorem names_val15 : addF (5, [0, 1, 0, 0]) (5, [-1, -1, -1, -1]) = ((5, [-1, 0, -1, -1]), 0) := by decide +kernel
theorem names_val16 : rootF 3 1 = ((3, [0, 1]), 0) := by decide +kernel
theorem names_val17 : rootF 4 1 = ((4, [0, 1]), 0) := by decide +kernel
theorem names_val18 : mulF (3, [0, 1]) (4, [0, 1]) = ((12, [0, -1, 0, 0]), 0) := by decide +kernel
theorem names_val19 : rootF 11 1 = ((11, [0, 1, 0, 0, 0, 0, 0, 0, 0, 0]), 0) := by decide +kernel
theorem names_val20 : rootF 12 1 = ((12, [0, 1, 0, 0]), 0) := by decide +kernel
theorem names_val21 : addF (11, [0, 1, 0, 0, 0, 0, 0, 0, 0, 0]) (12, [0, 1, 0, 0]) = ((0, []), 5) := by decide +kernel
theorem names_val22 : rootF 3 1 = ((3, [0, 1]), 0) := by decide +kernel
theorem names_val23 : galF (3, [0, 1]) (-1) = ((3, [-1, -1]), 0) := by decide +kernel
theorem names_val24 : rootF 5 1 = ((5, [0, 1, 0, 0]), 0) := by decide +kernel
theorem names_val25 : galF (5, [0, 1, 0, 0]) 2 = ((5, [0, 0, 1, 0]), 0) := by decide +kernel
theorem names_val26 : rootF 5 1 = ((5, [0, 1, 0, 0]), 0) := by decide +kernel
theorem names_val27 : galF (5, [0, 1, 0, 0]) 10 = ((0, []), 18) := by decide +kernel
theorem names_val28 : makeF 6 [1, 1, 1, 1, 1, 1] = ((1, [0]), 0) := by decide +kernel
theorem names_val29 : makeF 4 [0, 0, 0, 0, 5] = ((1, [5]), 0) := by decide +kernel
theorem names_val30 : quotF (1, [6]) 4 = ((0, []), 18) := by decide +kernel
theorem names_val31 : quotF (1, [6]) (-3) = ((1, [-2]), 0) := by decide +kernel
theorem names_val32 : makeF 1 [10000001] = ((0, []), 5) := by decide +kernel
theorem names_val33 : makeF 1 [-10000000] = ((1, [-10000000]), 0) := by decide +kernel
theorem names_val34 : quotF (1, [6]) 0 = ((0, []), 6) := by decide +kernel
theorem names_val35 : scaleF (1, [6]) 1666666 = ((1, [9999996]), 0) := by decide +kernel
theorem names_val36 : scaleF (1, [6]) 1666667 = ((0, []), 5) := by decide +kernel
theorem names_val37 : makeF 2 (List.replicate 1001 0) = ((0, []), 4) := by decide +kernel
theorem names_val38 : ratF (1, [6]) = (6, true) := by decide +kernel
theorem names_val39 : rootF 3 1 = ((3, [0, 1]), 0) := by decide +kernel
theorem names_val40 : ratF (3, [0, 1]) = (0, false) := by decide +kernel
theorem names_val41 : ratF (3, [5, 0]) = (0, false) := by decide +kernel
theorem names_val42 : checkF (6, [1, 1]) = 3 := by decide +kernel
theorem names_val43 : checkF (3, [1]) = 3 := by decide +kernel
theorem names_val44 : checkF (3, [5, 0]) = 3 := by decide +kernel
theorem names_val45 : checkF (0, []) = 2 := by decide +kernel
theorem names_val46 : checkF (1, [10000001]) = 5 := by decide +kernel
theorem names_val47 : rootF 3 1 = ((3, [0, 1]), 0) := by decide +kernel
theorem names_val48 : cmpF (1, [6]) (3, [0, 1]) = -1 := by decide +kernel
theorem names_val49 : cmpF (1, [6]) (1, [5]) = 1 := by decide +kernel
theorem names_val50 : cmpF (1, [6]) (1, [6]) = 0 := by decide +kernel
end Go.Proofs.Ythfabknpogbcaaa
