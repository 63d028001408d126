/-
  The table of the orders of regions, of the functions that the example runs. Conditions: none.
-/
import Derived.Test.YtnnebakkcdclmaaGreatAMTab
/- The table of the orders of regions of the functions that the example runs. -/
namespace Go.Proofs.YtnnebakkcdclmaaGreat.AM
def htab : Tab := [
  none
, none
, none
, none
, none
, none
, none
, none
, none
, none
, none
, none
, none
, none
, some []
, none
, some [(0, [1, 2, 0]), (5, [0, 2, 3, 4, 6, 7, 9, 10, 11, 1, 12, 5, 8, 13, 14, 15, 16])]
, some [(0, [1, 0])]
, some []
, none
, none
, none
, none
, some []
, some []
, none
, none
, none
, none
, none
, none
, none
, none
, some []
, none
, none
, none
, none
, none
, none
, none
, none
, some []
, some [(0, [1, 0])]
, some [(3, [1, 0, 2, 3])]
, some []
, some []
, some []
, some []
, some [(3, [0, 1, 3, 4, 5, 6, 7, 8, 9, 10, 11, 12, 13, 14, 2, 15])]
, some [(0, [1, 0])]
, some [(3, [0, 1, 2, 4, 3, 5])]
, none
, none
, none
, some []
, none
, none
, some [(3, [0, 1, 2, 3, 4, 6, 5])]
, some [(3, [1, 0, 2, 3])]
, some [(3, [1, 0, 2, 3])]
, none
, some []
, none
, none
, none
, none
, some []
, none
, none
, none
, none
, some []
, some []
, none
, none
, none
, none
, none
, some []
, some [(0, [1, 2, 0])]
, some []
, some [(0, [1, 2, 0])]
, some []
, some [(0, [1, 2, 0])]
, some []
, some []
, some []
, some []
, some []
, some []
, some []
, some []
, some []
, some []
, none
, some [(6, [0, 2, 1, 3, 4, 5])]
, none
, some []
, some []
, some []
, none
, some [(0, [1, 2, 0])]
, some [(0, [1, 2, 0])]
, some []
, some []
, some [(0, [1, 2, 0]), (3, [0, 1, 2, 3, 4, 6, 5, 7, 8, 9, 10])]
, some []
, some []
, none
, some []
, some []
, some [(0, [0, 1, 2, 3, 4, 5, 6, 9, 7, 8])]
, some [(0, [1, 0])]
, some []
, some [(0, [1, 0]), (7, [0, 3, 1, 2])]
, some []
, some []
, some []
, some []
, some [(5, [0, 1, 2, 3, 4, 6, 5, 7])]
, none
, none
, some []
, some []
, some [(0, [1, 0])]
, some []
, some []
, some []
, some [(0, [1, 0])]
, some []
, some [(0, [1, 0])]
, some [(0, [2, 0, 1])]
, some [(0, [1, 0]), (1, [0, 1, 4, 5, 7, 8, 9, 10, 15, 16, 17, 18, 19, 20, 22, 23, 24, 25, 26, 27, 28, 29, 2, 3, 6, 11, 12, 13, 14, 21, 30, 31, 32, 33])]
, some []
, some [(0, [1, 0])]
, none
, some [(0, [1, 0])]
, none
, some []
, some []
, some [(0, [1, 2, 0]), (4, [0, 1, 4, 2, 3])]
, some []
, some []
, some [(0, [1, 0])]
, some []
, some []
, some []
, some []
, some [(3, [1, 0, 2, 3])]
, some []
, some []
, some [(0, [1, 0])]
, some [(0, [1, 2, 0])]
, some []
, some [(0, [1, 0])]
, some []
, some []
, none
, some []
, none
, none
, none
, some [(1, [2, 3, 4, 0, 1, 5, 6, 7])]
, some []
, some [(0, [2, 0, 1])]
, some [(0, [2, 0, 1])]
, some [(1, [0, 1, 2, 4, 3, 5, 6])]
, some []
, some [(0, [1, 0])]
, none
, none
, some []
, none
, none
, none
, none
, none
, some []
, some []
, some []
, some []
, some [(8, [0, 1, 2, 3, 4, 5, 7, 8, 9, 6, 10, 11, 12])]
, some [(0, [1, 0])]
, some [(3, [1, 0, 2, 3])]
, some []
, some []
, some []
, some []
, some []
, some []
, some [(3, [1, 0, 2, 3])]
, some []
, none
, none
, none
, some []
, some []
, none
, none
, some []
, none
, none
, none
, none
, some []
, some []
, some []
, some []
, none
, some []
, some [(3, [0, 1, 2, 3, 4, 7, 5, 6])]
, none
, none
, none
, none
, some []
, some []
, some []
, none
, some []
, some []
, none
, some []
, some []
, some []
, none
, some []
, some []
, none
, none
, none
, none
, none
, none
, none
, none
, none
, none
, none
, none
, none
, none
, none
, none
, none
, none
, none
, none
, none
, none
, none
, none
, none
, none
, none
, none
, none
, none
, none
, none
, none
, none
, some []
, some []
, some []
, some []
, some [(0, [1, 0])]
, some []
, some []
, some [(0, [1, 0])]
, some []
, none
, some [(0, [2, 3, 0, 1])]
, some []
, some []
, none
, some []
, some []
, some []
, some []
, some [(0, [1, 0])]
, some [(0, [1, 0])]
, some []
, some []
, some []
, some []
, none
, some []
, some []
, none
, none
, some []
, some []
, some []
, none
, some []
, some []
, some []
, some []
, some [(1, [0, 1, 2, 3, 4, 5, 8, 6, 7]), (4, [0, 1, 2, 3, 5, 4, 6])]
, some []
, some []
, some [(0, [1, 0])]
, none
, some [(0, [1, 0])]
, none
, none
, some []
, some [(0, [1, 2, 0]), (16, [0, 1, 2, 3, 4, 5, 6, 7, 8, 9, 10, 11, 13, 14, 15, 16, 12, 17, 18, 19, 20]), (20, [0, 1, 2, 3, 4, 5, 6, 7, 8, 9, 10, 11, 14, 15, 12, 13, 16, 17])]
, none
, some [(0, [2, 0, 1])]
, none
, none
, none
, none
, none
, none
, none
, none
, none
, none
, some []
, none
, none
, none
, none
, none
, none
, none
, none
, none
, none
, none
, none
, none
, none
, none
, none
, none
, some [(8, [0, 2, 3, 4, 5, 1, 6])]
, none
, some []
, some []
, none
, some []
]
end Go.Proofs.YtnnebakkcdclmaaGreat.AM
