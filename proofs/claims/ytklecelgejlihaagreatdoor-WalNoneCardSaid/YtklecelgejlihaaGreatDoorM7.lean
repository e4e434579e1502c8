/- Which slots outlive each region, function by function: read off the program's text by a small program. -/
import Derived.Test.YtklecelgejlihaaGreatDoorM6
import Derived.Test.YtklecelgejlihaaGreatDoorM4
import Derived.KernelRfl
import Derived.Test.YtklecelgejlihaaGreatDoorRows
import Derived.WalkKit
import Derived.ProofKit
import Derived.OpenShut
import Derived.ShutString
import Derived.ChangeOld
import Derived.Below
import Derived.SizedLaws
import Derived.LaidMore
import Derived.LaidSub
import Derived.Lay
import Derived.SevenTiedAt
import Derived.Stop.Joined
/- Which slots outlive each region, function by function: read off the program's text by a small program. -/
namespace Go.Proofs.YtklecelgejlihaaGreatDoor
def vtab : List (List (List Nat)) := [[],
  [],
  [[]],
  [[1, 2], [1, 2, 5], [1, 2, 5, 6], [1, 2, 5, 6, 7], [1, 2, 5, 6, 7, 14], [1, 2, 5, 6, 7], [1, 2, 5, 6, 7, 18], [1, 2, 5, 6, 7], [1, 2, 5, 6, 7, 8, 9], [1, 2, 5, 6, 7, 56], [4], [10, 11, 12], [4]],
  [[0], [0, 7], [2, 3], [0, 10], [2, 3], [0, 4], [0, 4, 19], [2, 3], [0, 5, 6], [0, 5, 6, 35], [0, 6, 36], [6], [2, 3], [0], [2, 3]],
  [[0, 3], [0, 3, 9], [4], [0, 3, 5, 6], [0, 3, 5, 6, 16], [4], [0, 3, 5, 24], [4], [0, 3, 6, 7], [0, 3, 6, 7, 31], [4], [0, 3, 6], [0, 3, 6, 45], [6], [4]],
  [[0], [0, 4], [2], [2]],
  [[0, 1], [0, 1, 9], [4], [0, 1, 14], [4], [0, 1, 19, 20, 21], [0, 1, 19, 20, 21, 22], [0, 1, 6, 19, 20, 21], [0, 1, 6, 19, 20, 21, 35], [0, 1, 7, 19, 20, 21], [0, 1, 7, 19, 20, 21, 44], [4], [0, 1, 19, 20, 21], [4]],
  [[0], [0, 4], [2], [2]],
  [[0], [0, 4], [2], [2]],
  [[0, 1], [0, 1, 8], [0, 1, 8, 21], [4, 5, 6], [0, 1, 29], [4, 5, 6], [0, 1, 9], [0, 1, 9, 10], [0, 1, 9, 10, 41, 42, 43], [0, 1, 9, 10, 41, 42, 43, 44], [0, 1, 9, 10, 12, 41, 42, 43], [0, 1, 9, 10, 12, 41, 42, 43, 49], [0, 1, 9, 12, 41, 42, 43, 53], [4, 5, 6], [0, 1, 9, 10, 12, 41, 42, 43], [0, 1, 9, 10, 13, 41, 42, 43], [0, 1, 9, 10, 13, 41, 42, 43, 61], [4, 5, 6], [0, 1, 9, 10, 41, 42, 43], [0, 9, 10, 66], [4, 5, 6], [0, 9, 10, 15], [0, 9, 10, 15, 75], [4, 5, 6], [4, 5, 6]],
  [[], [1], [1, 3, 4, 5], [1, 3, 31], [0], [1, 3, 6], [1, 6, 7], [1, 6, 7], [6, 7, 8, 9, 10], [0]],
  [[0], [2]],
  [[0, 1], [0, 1, 6], [0, 1, 6, 13], [4, 5], [0, 1, 5, 7], [0, 1, 5, 7, 23], [0, 1, 5], [0, 1, 5, 30], [0, 5], [0, 5, 36], [5], [4, 5]],
  [[2, 3], [4]],
  [[0], [3], [2]],
  [[1], [1, 4], [1, 4, 12], [2, 3], [1, 5], [1, 5, 6], [5, 6, 26, 27, 28], [5, 6, 26, 27, 28, 29], [5, 6, 8, 26, 27, 28], [5, 6, 8, 26, 27, 28], [5, 6, 26, 27, 28], [5, 6, 26, 27, 28], [2, 3]],
  [[0], [0, 7], [2, 3], [4], [2, 3]],
  [[3, 4, 5], [6]],
  [[1], [1, 5], [2], [2]],
  [[2, 3], [4]],
  [[0], [2]],
  [[0], [0, 3], [3, 8, 9, 10], [3, 8, 9, 10, 11], [3, 5, 8, 9, 10], [3, 6, 8, 9, 10], [3, 6, 8, 9, 10, 17], [3, 8, 9, 10], [3, 8, 9, 10], [2]],
  [[0, 1], [0, 1, 6], [0, 1, 6, 11], [4, 5], [7], [7, 20], [4, 5], [4, 5]],
  [[0, 1, 2], [1, 2, 7, 8], [1, 2, 7, 8, 24], [6], [1, 2, 8, 9], [2, 9, 53], [6], [2, 56, 57, 58], [2, 56, 57, 58, 59], [2, 11, 12, 56, 57, 58], [2, 12, 56, 57, 58, 64], [2, 13, 14, 56, 57, 58], [2, 13, 56, 57, 58, 71], [6], [2, 15, 56, 57, 58], [2, 15, 56, 57, 58, 78], [6], [2, 56, 57, 58], [6]],
  [[0], [0, 3], [3, 6], [2], [2]],
  [[0], [0, 4], [2], [2]],
  [[0], [0, 9], [2, 3], [2, 3]],
  [[0, 1, 13], [0, 4], [0, 4, 28, 29, 30], [0, 4, 28, 29, 30, 31], [0, 4, 6, 28, 29, 30], [0, 4, 28, 29, 30], [0, 4, 28, 29, 30], [0, 4, 46, 47, 48], [0, 4, 46, 47, 48, 49], [0, 4, 8, 46, 47, 48], [0, 4, 9, 46, 47, 48], [0, 4, 9, 10, 46, 47, 48], [0, 4, 9, 10, 46, 47, 48, 69], [0, 4, 9, 46, 47, 48], [0, 4, 46, 47, 48], [0, 4, 46, 47, 48], []],
  [[2, 3], [4]],
  [[0], [0, 3], [0, 3, 5], [0, 3], [0, 3], [2]],
  [[1], [2]],
  [[0, 1, 2], [0, 1, 2, 7], [0, 1, 2, 7, 12], [6], [0, 2, 8], [0, 2, 8, 17], [6], [0, 2, 23], [], [6], [0, 2, 34], [0, 2], [2], [], [6]],
  [[2, 3], [4]],
  [[]],
  [[0, 3], [0, 3], []],
  [[0], [2]],
  [[0, 1], [0, 1, 11], [0, 1, 11, 12], [4], [0, 1, 14], [4], [0, 1, 18], [0, 1], [0, 5, 6], [0, 6, 34], [0, 6], [0, 7], [0, 7, 40], [4], [0, 7, 42], [0, 7, 42, 43], [0, 7, 42, 43], [0, 7, 42, 43], [0, 7, 42, 43], [0, 7, 43], [0, 7, 49], [4], [0, 7, 58], [4], [0, 7, 67], [4], [0, 7, 76], [4], [0, 7, 85], [4], [0, 7, 8], [0, 7, 8, 96], [0, 7, 8], [0, 7, 8, 104], [0, 7, 8], [0, 7, 8, 9], [0, 7, 8, 9], [7, 8, 9], [7, 8, 9, 113], [7, 8, 9, 10], [7, 8, 9], [4]],
  [[1], [1, 3], [1, 3, 9], [1, 3], [1, 3, 23], [2], [3, 25, 26, 27], [3, 25, 26, 27, 28], [3, 5, 25, 26, 27], [3, 5, 25, 26, 27, 53], [2], [3, 25, 26, 27, 63], [3, 25, 26, 27], [3, 25, 26, 27], [2]],
  [[0], [0]],
  [[0], [2]],
  [[0], [3], [2]],
  [[0, 1, 2], [0, 2, 4], [3], [12], [3], [3]],
  [[0], [0, 3], [0, 3, 8], [3, 13], [3, 13, 15], [3, 5, 13], [3, 13], [2]],
  [[]],
  [[]],
  [[0], [0, 5], [2], [2]],
  [[0], [3, 4], [3, 18], [2], [3, 5], [3, 5, 20, 21], [3, 5, 20, 21, 22], [3, 5, 6, 20, 21], [3, 5, 6, 20, 21, 33], [2], [3, 5, 20, 21], [3, 5, 20, 21], [2]],
  [[0], [0, 3], [2], [13], [2], [2]],
  [[1, 2, 3, 4], [1, 2, 3, 4, 8], [1, 2, 3, 5, 10], [1, 2, 3, 5, 6], [1, 3], [19], [1, 2, 3, 4, 23], [2, 3, 4], [2, 3, 4]],
  [[0, 2], [0, 2, 4], [0, 2, 4, 5], [0, 2, 4, 5, 6, 7, 8], [0, 2, 4, 5, 6, 7, 8, 9, 10, 11], [0, 2, 4, 5, 6, 7, 9, 10, 42], [2, 3], [0, 2, 4, 5, 9], [0, 2, 4, 5, 9, 56], [2, 5, 63], [2, 3], [0, 2, 4, 5, 9, 77], [0, 2, 4, 5, 9, 12], [0, 2, 4, 5, 9, 12, 13, 14, 15], [0, 2, 4, 5, 9, 12, 13, 14, 90], [0, 2, 4, 5, 9, 12, 13, 14, 15, 16, 17], [0, 2, 4, 5, 9, 12, 13, 14, 16, 17, 106], [0, 2, 4, 5, 9, 12, 14, 17], [0, 2, 4, 5, 9], [2, 3]],
  [[0, 1], [0, 1, 9], [4], [0, 1, 11], [0, 1], [0, 1, 5], [0, 1, 5, 6], [0, 1, 5, 6, 23], [0, 1, 5, 6], [0, 1, 5, 7], [0, 1, 5, 7, 35], [0, 1, 5, 7], [4]],
  [[1], [2]],
  [[1, 2], [1, 2, 6], [1, 2], [1, 2, 12], []],
  [[0], [3], [3], [2]],
  [[1], [2]],
  [[0], [0, 4], [2], [2]],
  [[0, 1], [0, 1, 3], [2], [1, 7], [2], [15], [2], [2]],
  [[0], [0, 12], [2], [0, 14, 15], [0, 14, 15, 16], [0, 3, 14, 15], [0, 4, 14, 15], [0, 14, 15, 43], [2], [0, 14, 15], [2]],
  [[]],
  [[], [0]],
  [[]],
  [[0, 1], [9], [2], [2]],
  [[0], [2]],
  [[0, 1], [6, 7], [4, 5], [8, 9], [4, 5]],
  [[0, 1], [4]],
  [[0, 1], [0, 1, 7], [0, 1], [0, 1, 21], []],
  [[0, 1], [0, 1], [1], [4, 5]],
  [[0], [2]],
  [[0], [2]],
  [[1], [2]],
  [[0], [2, 3, 4]],
  [[0, 1], [0, 1, 6, 7, 8], [0, 1, 6, 7, 8, 15], [4, 5, 6], [0, 7, 8, 19], [4, 5, 6], [0, 7, 8, 28], [4, 5, 6], [4, 5, 6]],
  [[], [2]],
  [[], [2, 3, 4]],
  [[0], [2]],
  [[0, 1], [4, 5]],
  [[1], [2]],
  [[0], [0, 2, 4, 5], [0, 2, 4, 5, 12], [2, 3, 4], [0, 2, 5, 16], [2, 3, 4], [2, 5, 22], [2, 3, 4], [2, 3, 4]],
  [[0, 2], [2, 5], [2, 5, 6], [2, 5, 6, 7], [2, 5, 6, 7, 14], [2, 5, 6, 7], [2, 5, 6, 7, 8, 9], [2, 5, 6, 7, 8, 23], [4], [2, 5, 6, 7, 8, 29], [2, 5, 6, 7, 8], [2, 5, 6, 7, 8, 38], [2, 5, 44], [2, 3, 4], [4], [2, 3, 4]],
  [],
  [],
  [],
  [[0, 1, 3, 6], [0, 1, 3, 6, 19], [], [8], [0, 1, 3, 6, 9, 10], [0, 1, 3, 6, 35], [8], [1, 3, 6, 36], [], [8], [1, 3, 6, 36, 38, 39], [1, 3, 6, 11], [0, 1, 3, 6], [0, 1, 3, 6, 43], [8], [1, 3, 6, 36, 45, 46], [1, 3, 6, 12], [1, 3, 6, 48, 49, 50], [1, 3, 6, 48, 49, 50, 51], [1, 3, 6, 14, 48, 49, 50], [1, 3, 6, 14, 48, 49, 50, 55], [1, 3, 6, 48, 49, 50, 60], [8], [1, 3, 6, 48, 49, 50], [8]],
  [[0, 1], [0, 1, 4], [0, 1, 4, 7], [0, 4], [3]],
  [[0], [2]],
  [[0, 2], []],
  [[0, 5], [0, 5, 7], [0, 3, 5], [0, 5, 13]],
  [],
  [[0, 1], [0, 1, 11], [0, 17], [4], [0, 5], [0, 5, 6], [0, 5, 6, 23], [0, 5, 6], [0, 5, 6, 7], [0, 5, 7], [5, 7, 34], [5, 7], [4], [4], [9], [4]],
  [[0, 1], [6], [4, 5]],
  [[0, 1], [0, 1, 6], [0, 1, 6, 7], [0, 1, 6, 7, 8], [0, 1, 6, 7, 8, 9], [0, 1, 6, 7, 8, 9, 10], [0, 1, 6, 7, 9, 11], [0, 1, 6, 7, 9, 11, 12], [0, 1, 6, 7, 9, 12, 13], [0, 1, 7, 9, 12, 13], [0, 1, 4], [4, 5]],
  [[0, 1], [4]],
  [[0, 6], [], [19]],
  [[0, 4], [0, 4], []],
  [[0, 1], [1, 5], [5], [4]],
  [[0, 1], [0, 1, 9], [4, 5], [4, 5]],
  [[0, 1, 3], [0, 1, 3, 4, 5, 6], [0, 1, 3, 4, 5, 16], [0, 1, 3, 4], [0, 1, 3, 24]],
  [[0], [0, 13], [2, 3], [0], [2, 3]],
  [],
  [],
  [],
  [[1, 2, 4], [2, 4, 6], [2, 5], [], [4]],
  [[0, 1, 2, 3, 8], [0, 1, 2, 3, 8, 9], [0, 1, 2, 3, 8, 9, 10], [0, 1, 2, 3, 8, 9, 10, 23], [], [0, 1, 2, 3, 8, 9, 10, 29], [], [0, 1, 2, 3, 8, 9, 10, 35], [0, 1, 2, 3, 8, 9, 10], [0, 1, 2, 3, 8, 9, 10], [0, 1, 2, 3, 8, 9, 10, 11, 12], [0, 1, 2, 3, 8, 9, 10, 11, 12, 50], [0, 1, 2, 3, 8, 9, 10, 11], [0, 1, 2, 3, 8, 9, 10, 11], [0, 1, 2, 3, 8, 9, 10, 11, 12], [0, 1, 2, 3, 8, 9, 10, 11, 68], [0, 1, 2, 3, 8, 9, 10, 11, 72], [0, 1, 2, 3, 8, 9, 10, 11, 87], [0, 2, 3, 8, 9, 13], [0, 1, 2, 3, 8, 9], [0, 1, 2, 3, 10, 14, 15], [0, 1, 2, 3, 9, 10, 14], [0, 1, 2, 3, 9, 10, 14, 16, 17], [0, 1, 2, 3, 9, 14, 16, 17, 18], [0, 1, 2, 3, 9, 14, 16, 17, 18, 113], [0, 1, 2, 3, 8, 9, 14], [0, 2, 3, 8, 9, 14], [0, 1, 2, 3, 8, 9], [0, 1, 2, 3, 8, 9, 14], [0, 1, 3, 8, 9, 14], [0, 1, 2, 3, 8, 9]],
  [[0], [2], [2]],
  [[0], [0, 4], [2], [2]],
  [[0], [0, 3], [2]],
  [[0, 1, 4], [0, 1, 4, 20], [0, 1, 4, 5], [0, 1, 4, 5], [0, 1, 4, 6, 7], [0, 1, 4, 6, 8, 9], [0, 1, 4, 8, 9, 10, 11], [0, 1, 4, 8, 10, 11], [0, 1, 4, 10, 11], [0, 1, 4, 10], [0, 1, 4], [0, 1, 4], [0, 4, 12], [0, 4, 12, 99], [0, 4, 12, 13], [0, 4, 12, 13], [0, 4, 12, 14, 15], [0, 4, 12, 14], [0, 4, 12], [0, 4, 12], [0, 4, 12, 139], [0, 4, 12, 16], [0, 4, 12, 16], [0, 4, 12], [0, 4, 12], [0, 12, 161], []],
  [[0, 1, 2, 3, 4, 10, 11], [0, 1, 2, 3, 4, 10, 11, 28], [0, 1, 2, 3, 4, 10, 11], [0, 1, 2, 3, 4, 10, 11, 12], [0, 1, 2, 3, 4, 10, 11, 12, 13], [0, 1, 2, 3, 4, 10, 11, 12, 13, 30], [0, 1, 2, 3, 4, 10, 11, 12, 13], [0, 1, 2, 3, 4, 10, 11, 12, 13, 34], [0, 1, 2, 3, 4, 10, 11, 12, 13, 14], [0, 1, 2, 3, 4, 10, 11, 12, 13, 14, 15], [0, 1, 3, 4, 10, 11, 12, 13, 14, 15, 16], [0, 1, 3, 4, 10, 11, 12, 13, 14, 15, 16, 46], [0, 1, 3, 4, 10, 11, 12, 13, 14, 15, 16], [0, 1, 3, 4, 10, 11, 12, 13, 14, 15, 16], [0, 1, 3, 4, 10, 11, 12, 13, 14, 15, 16], [0, 1, 3, 4, 10, 11, 12, 13], [0, 3, 4, 10, 11, 12, 13], [0, 1, 3, 4, 10, 11, 12, 13, 17], [0, 1, 3, 4, 10, 11, 12, 13, 17, 68], [0, 1, 3, 4, 10, 11, 12, 13, 17], [0, 1, 3, 4, 10, 11, 12, 13, 17, 18], [0, 3, 4, 10, 11, 12, 13, 17, 18], [0, 1, 3, 4, 10, 11, 12, 13, 17], [0, 1, 3, 4, 10, 11, 12, 13], [0, 3, 4, 10, 11, 12, 13], [0, 4, 10, 11, 12, 13, 89], [0, 4, 10, 11, 12, 13], [0, 4, 10, 11, 12, 13], [0, 10, 11, 12, 13, 94], [10, 11], [10, 11]],
  [],
  [],
  [[0, 1, 6, 7], [0, 1, 6, 7, 8], [0, 1, 4, 6, 7], [0, 1, 6, 7], [0, 1, 6, 7]],
  [[1], [1, 3], [1, 3, 10], [1, 3], [1, 3, 4], [1, 3, 4], [1, 3, 19], [1, 3]],
  [[0, 1, 2, 6], [0, 1, 2, 6, 12], [0, 1, 2, 6], [0, 1, 2, 6, 7], [0, 1, 2, 6, 7, 30], [0, 1, 2, 6, 7], [0, 1, 2, 6, 7]],
  [[0, 1, 2, 6], [0, 1, 2, 6, 7], [0, 6, 7, 8], [0, 6, 7, 8, 9], [0, 6, 7, 8, 9, 19], [0, 6, 7, 8, 9], [0, 6, 7, 8, 9], [0, 6, 7, 10], [0, 6, 7, 10, 30], [0, 6, 7, 10], [0, 6, 7, 10], [0, 6, 7, 10]],
  [[0, 1, 6], [0, 1, 6, 15], [0, 1, 6, 7], [0, 1, 6, 7, 8], [0, 1, 6, 7, 8, 9], [0, 1, 6, 7, 8, 9, 33], [0, 1, 6, 7, 8, 9], [0, 1, 6, 7, 8, 9, 10], [0, 1, 6, 7, 8, 9, 10, 43], [0, 1, 6, 7, 8, 9, 10], [0, 1, 6, 7, 8, 9]],
  [[0, 1, 2], [0, 1, 8], [0, 1, 8, 9], [0, 1, 8, 9, 10], [0, 1, 8, 9, 10, 11], [0, 8, 9, 10, 11, 12], [0, 8, 9, 10, 11, 12, 32], [0, 9, 10, 11, 12, 34], [0, 9, 10, 11, 12], [0, 9, 10, 11, 12], [0, 9, 10, 11, 12], [9, 11], [11, 49], [6, 7], [11, 49, 51], [6, 7], [11, 54], [6, 7]],
  [[0, 2, 6], [0, 6, 7], [0, 6, 7, 13], [0, 6, 7], [0, 6, 7], [0, 6, 7]],
  [[0, 1, 2], [0, 1, 2, 7], [0, 1, 2, 7, 8], [0, 1, 2, 7, 8, 14], [0, 1, 2, 7, 8], [0, 1, 2, 7, 8, 32], [0, 1, 2, 7, 8], [0, 1, 2, 7, 8, 37], [6], [0, 1, 2, 7, 8, 41], [6], [0, 1, 2, 7, 8], [0, 1, 2, 7, 8, 61], [0, 1, 2, 7, 8, 9], [0, 1, 2, 7, 8, 9, 65], [0, 1, 2, 7, 8, 9], [0, 1, 2, 7, 8, 9, 78], [0, 1, 2, 7, 8, 9], [0, 1, 2, 7, 8, 98], [0, 1, 2, 7, 8, 10], [0, 1, 2, 7, 8, 10, 103], [0, 1, 2, 7, 8, 10], [0, 1, 2, 7, 8, 10, 116], [0, 1, 2, 7, 8, 10], [6]],
  [[0, 1], [4]],
  [[0, 1, 2, 3], [0, 1, 2], [0, 1, 9, 10], [0, 1, 9, 10, 43], [0, 1, 9, 10], [0, 1, 9, 10, 59], [0, 1, 9, 10], [0, 1, 9, 10, 64], [0, 1, 9, 10], [0, 1, 9, 10], [0, 1, 9, 10], [8]],
  [[0, 1, 2, 3], [0, 1, 2], [0, 1, 10, 11], [0, 1, 10, 11, 43], [0, 1, 10, 11], [0, 1, 10, 11, 60], [0, 1, 10, 11], [0, 1, 10, 11, 65], [11], [8, 9], [0, 1, 10, 11], [0, 1, 10, 11], [0, 1, 10, 11], [0, 1, 10, 11, 112], [0, 1, 10, 11], [0, 1, 10, 11, 129], [0, 1, 10, 11], [0, 1, 10, 11, 134], [0, 1, 10, 11], [0, 1, 10, 11], [0, 1, 10, 11], [11], [8, 9]],
  [[0, 2], [0, 2, 4], [0], [0, 2], [0, 2, 8], [0, 2], [0, 2], [2]],
  [[0, 2], [0, 2, 4], [0], [0, 2], [0, 2, 8], [0, 2], [0, 2], [0, 2, 14], [0, 2], [0, 2], [2]],
  [[0], [2]],
  [[0], [3], [2], [2]],
  [[0], [2]],
  [[0], [2], [2]],
  [[0, 2, 3, 8], [0, 2, 3, 8, 9], [0, 2, 3, 8, 9, 16], [0, 2, 3, 8, 9, 36], [0, 2, 3, 8, 9], [0, 2, 3, 8, 9, 52], [0, 2, 3, 9], [0, 2, 3, 8]],
  [[0], [2]],
  [[0], [0], [0], [0], [2]],
  [[0, 1, 2], [6]],
  [[0, 1, 2, 3, 4], [0, 1, 2, 3, 4], [0, 1, 2, 4], [2], [10]],
  [[0], [2]],
  [[0], [0, 4], [2], [2]],
  [[0], [0, 4], [2], [2]],
  [[0, 1, 2, 3], [1, 2, 3, 18], [1, 2], [8, 9], [8, 9]],
  [],
  [],
  [],
  [],
  [],
  [],
  [],
  [],
  [],
  [],
  [],
  [],
  [],
  [],
  [],
  [],
  [],
  [],
  [[0, 3], [0, 3, 11], [4], [], [4]],
  [],
  [[1], [2]],
  [],
  [],
  [],
  [],
  [],
  [],
  [],
  [],
  [],
  [],
  [],
  [],
  [],
  [],
  [],
  [],
  [],
  [],
  [],
  [],
  [],
  [],
  [[], [], [], []]]
def vars0 : FuncId → Nat → List Nat := fun f r => (((vtab[f]?).getD [])[r]?).getD []
end Go.Proofs.YtklecelgejlihaaGreatDoor

/- Wal: awake answers true. -/
namespace Go.Proofs.YtklecelgejlihaaGreatDoor.Am
set_option linter.unusedVariables false
def Kl : Know := ⟨vars0, findS libs, fun _ => false, fun _ => false, 0⟩
def isTrue (o : Option Out) : Bool :=
  match o with
  | some (.bool b, _, _) => b
  | _ => false
theorem isTrue_some {o : Option Out} (h : isTrue o = true) : ∃ H own, o = some (.bool true, H, own) := by
  unfold isTrue at h
  split at h
  · exact ⟨_, _, by rw [h]⟩
  · cases h
theorem awake_runs : isTrue (callK Tryz.prog 1000 Kl 11 [] [] []) = true := by kernel_rfl
end Go.Proofs.YtklecelgejlihaaGreatDoor.Am

/- What the rows' conditions give a walk, and a law that the machine runs to its end. -/
namespace Go.Proofs.YtklecelgejlihaaGreatDoor.Am
open Go.ChangeShapes Go.WideShapes Go.ChangeAt Go.RowKit
set_option linter.unusedVariables false
set_option linter.unusedSimpArgs false

theorem own : ownKnob Tryz.prog.godebug = none := by kernel_rfl
theorem laidOut : laidOutB Tryz.prog = true := by kernel_rfl

section
variable {H : Type} {enc : TypeId × Value → H}
/-- A row's statement by a walk that may ask how the memory is laid out, too. -/
theorem returns_shaped {a : Assume} {C : Checked} {os : Os} {f : FuncId} {fn : Func} {s : ChangeSpec} {conds : List PathCond} {apart fresh handsOn again : Bool} {X : World → Array Value → Prop}
    (hX : ∀ (w w' : World) (args : Array Value), w.heap = w'.heap → X w args → X w' args)
    (own : ownKnob C.prog.godebug = none) (started : os.Started) (noInit : C.prog.inits.idxOf? f = none) (hfn : C.prog.funcs[f]? = some fn)
    (witness : ∃ (w : World) (tape : Tape) (i : Input), w.os = os ∧ (w.forCall tape i).Shaped C.prog ∧ i.vars = [] ∧ Input.okWide C.prog (w.forCall tape i) .any w.heap.size f i ∧
      ((s.pre enc C.prog fn conds apart (w.forCall tape i).memory i.args ∧ X (w.forCall tape i).memory i.args) ∧ sizedMet enc C.prog fn (OpenSpec.ofChange s) apart (w.forCall tape i).memory i.args) ∧ a.holds C.prog (lone (Frame.enter C.prog f i.args .normal) [] (w.forCall tape i)))
    (contract : ∀ (W : World) (base : Nat) (args : Array Value) (ds gs : List (DataW H)) (before : List MemPlace), W.ShapedOpen C.prog →
      (∀ (j : Nat) t v, fn.params[j]? = some t → args[j]? = some v → Value.okWide C.prog W .any base t v) →
      DataW.Whole enc C.prog fn.params.toList s.vars apart W args.toList ds gs before →
      X W args →
      Calls C.prog f args W fun e W' => ∃ v, e = .returned v ∧ s.post enc C.prog fn apart fresh handsOn again W args v W') :
    ReturnsInHanded a C os f .any (fun w args => (s.pre enc C.prog fn conds apart w args ∧ X w args) ∧ sizedMet enc C.prog fn (OpenSpec.ofChange s) apart w args) (s.post enc C.prog fn apart fresh handsOn again) := by
  refine returnsInHanded_of_calls own started noInit witness ?_
  intro w tape i _ hs _ hok hpre _
  obtain ⟨_, _, _, fn', hfn', _, _, _, _, hval⟩ := hok
  obtain rfl : fn' = fn := Option.some.inj (hfn'.symm.trans hfn)
  obtain ⟨⟨⟨ds, gs, before, hw, _⟩, hx⟩, _⟩ := hpre
  refine (contract (w.forCall tape i) w.heap.size i.args ds gs before hs hval (DataW.Whole.of_heap (w' := w.forCall tape i) (by rfl) hw) (hX _ _ _ (by rfl) hx)).mono fun e W' ⟨v, he, hp⟩ => ?_
  subst he
  exact ChangeSpec.post_blind hp
end

section
variable {P : Program} {W : World}
theorem arg_agg {T : Ty} {cs : Array Value} {H : Type} {enc : TypeId × Value → H} {n : Nat} {t : TypeId} {d : DataW H} {ps : List MemPlace} (hT : tyOf P n t = some T) (h : DataW.Trod enc P W 0 (fun _ => true) true t (.agg cs) d ps) :
    ∃ x : T.den, Rep P ((G0 W).mem W) (.agg (T.enc x)) (.agg cs) := by
  obtain ⟨fuel, h⟩ := h
  obtain ⟨x, hx⟩ := trod_ty (G0_pm W) n t T fuel _ _ hT h
  have hl : (T.enc x).length = cs.size := hx.len
  have hg : ∀ i, cs.toList.getD i undef = cs.getD i undef := by intro i; simp [Array.getD_eq_getD_getElem?, List.getD_eq_getElem?_getD]
  exact ⟨x, .agg _ _ hl.symm (fun i hi => by have := hx.rep i hi; rw [show (Value.agg cs).cells.toList = cs.toList from rfl, hg] at this; exact this) (fun i hi => by have := hx.one i hi; rw [show (Value.agg cs).cells.toList = cs.toList from rfl, hg] at this; exact this)⟩
end

theorem glob_none {W : World} : GlobAt W := ⟨Nat.zero_le _, trivial⟩
/-- A law's function that is run to its end. -/
theorem law_runs {P : Program} {K : Know} {W : World} (hG : GlobAt W) (hP : POk P) (hS : ShortSound P K) (hL : ShortLocal K) {n : Nat} {f : FuncId} {args : List AV} {vals : Array Value} (hr : isTrue (callK P n K f args [] []) = true) (har : ArgsRep P ((G0 W).mem W) args vals) :
    Calls P f vals W fun e W' => e = .returned (.bool true) ∧ Go.RowKit.Below W.heap.size W W' := by
  obtain ⟨H', own', hc⟩ := isTrue_some hr
  have h1 := (machine_sound hP n K hS hL).1 f args [] [] _ hc (G0 W) W vals (G0_ok hG) (G0_heap W) ⟨fun id off b k cs h => (by cases h), fun id off h => (by cases h)⟩ har
  refine h1.mono ?_
  rintro e W' ⟨v, G', rfl, hd⟩
  have hr := hd.rep
  refine ⟨?_, hd.ext.below (Nat.le_refl _) fun b _ => G0_foot W b⟩
  cases hr
  rfl
end Go.Proofs.YtklecelgejlihaaGreatDoor.Am

/- WalNone's law, run to its end. -/
namespace Go.Proofs.YtklecelgejlihaaGreatDoor.Am
set_option linter.unusedVariables false
def shorts : List (FuncId × ShortF) := (11, idleF true) :: libs
theorem shorts_ok : AllOk Tryz.prog shorts := by
  obtain ⟨H, own, h⟩ := isTrue_some awake_runs
  exact ⟨idle_ok pok (short_sound (K := Kl) rfl libs_ok) (short_local (K := Kl) rfl libs_ok) h, libs_ok⟩
def Kj (lo : Nat) : Know := ⟨vars0, findS shorts, fun _ => false, fun _ => false, lo⟩
theorem WalNone_runs (a n : Int) (L : AV) : isTrue (callK Tryz.prog 1000 (Kj 0) 3 [.agg [.int .u64 a, L], .int .i64 n] [] []) = true := by kernel_rfl
abbrev batchTy : Ty := .pair (.int .u64) (.pair (.slice 65 true (.pair (.int .i64) (.pair .str (.pair .str .unit)))) .unit)
theorem tyBatch : tyOf Tryz.prog 10 25 = some batchTy := by kernel_rfl
def batchL (d : batchTy.den) : AV :=
  match d.2.1 with
  | none => .nils
  | some p => .lst 65 (p.1.1.map fun d => elt true ((Ty.pair (.int .i64) (.pair .str (.pair .str .unit))).enc d)) (p.1.2.map fun d => elt true ((Ty.pair (.int .i64) (.pair .str (.pair .str .unit))).enc d))
theorem batch_enc (d : batchTy.den) : .agg (batchTy.enc d) = AV.agg [.int .u64 d.1.1, batchL d] := by
  obtain ⟨a, s, u⟩ := d
  cases s with
  | none => rfl
  | some p => rfl
end Go.Proofs.YtklecelgejlihaaGreatDoor.Am
