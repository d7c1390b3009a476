/- The words of the cut: what they tell of the program (for a row's closed facts). -/
import Derived.Test.YtgddfmfiiodgbaaChecked
import Derived.Test.YtgddfmfiiodgbaaRows
import Derived.WalkKit
import Derived.ProofKit
import Derived.Test.YtgddfmfiiodgbaaU19
import Derived.Test.YtgddfmfiiodgbaaU09
import Derived.Test.YtgddfmfiiodgbaaU28
import Derived.Test.YtgddfmfiiodgbaaU21
import Derived.Test.YtgddfmfiiodgbaaU25
import Derived.Test.YtgddfmfiiodgbaaU29
import Derived.Test.YtgddfmfiiodgbaaU30
import Derived.Test.YtgddfmfiiodgbaaU27
namespace Go.Proofs.Ytgddfmfiiodgbaa
open Go Go.RowKit
set_option maxRecDepth 100000
set_option linter.unusedVariables false
set_option linter.unusedSimpArgs false

theorem cutWords : Try.pinned.checked.prog.initOrder.toList = ([104, 97, 114, 110, 101, 115, 115, 32, 57, 51, 101, 57, 52, 57, 53, 97, 54, 54, 102, 97, 99, 54, 50, 54, 100, 51, 97, 54, 50, 97, 99, 55, 101, 49, 100, 50, 52, 52, 50, 99, 52, 53, 54, 102, 100, 97, 52, 98, 53, 52, 56, 56, 49, 102, 98, 97, 56, 50, 51, 99, 55, 99, 50, 97, 102, 99, 51, 100, 100, 57, 101, 99, 32, 99, 117, 116, 32, 97, 116, 32, 103, 97, 114, 108, 97, 110, 100, 47, 103, 97, 114, 108, 97, 110, 100, 108, 97, 119, 49, 49, 46, 83, 105, 110, 103, 108, 101, 76, 97, 114, 103, 101, 115, 116, 32, 103, 97, 114, 108, 97, 110, 100, 47, 103, 97, 114, 108, 97, 110, 100, 108, 97, 119, 49, 49, 46, 83, 105, 110, 103, 108, 101, 80, 97, 116, 104, 115, 32, 103, 97, 114, 108, 97, 110, 100, 47, 103, 97, 114, 108, 97, 110, 100, 108, 97, 119, 49, 49, 46, 83, 105, 110, 103, 108, 101, 82, 101, 102, 117, 115, 101, 115, 32, 103, 97, 114, 108, 97, 110, 100, 47, 103, 97, 114, 108, 97, 110, 100, 108, 97, 119, 49, 49, 46, 83, 105, 110, 103, 108, 101, 76, 111, 110, 103, 32, 103, 97, 114, 108, 97, 110, 100, 47, 103, 97, 114, 108, 97, 110, 100, 108, 97, 119, 49, 49, 46, 83, 105, 110, 103, 108, 101, 76, 97, 98, 101, 108, 115, 32, 103, 97, 114, 108, 97, 110, 100, 47, 103, 97, 114, 108, 97, 110, 100, 108, 97, 119, 49, 49, 46, 83, 105, 110, 103, 108, 101, 83, 116, 101, 109, 115, 32, 103, 97, 114, 108, 97, 110, 100, 47, 103, 97, 114, 108, 97, 110, 100, 108, 97, 119, 49, 49, 46, 83, 105, 110, 103, 108, 101, 71, 114, 111, 119, 115, 32, 103, 97, 114, 108, 97, 110, 100, 47, 103, 97, 114, 108, 97, 110, 100, 108, 97, 119, 50, 50, 46, 67, 108, 97, 115, 115, 105, 102, 121, 76, 97, 98, 101, 108, 115, 32, 103, 97, 114, 108, 97, 110, 100, 47, 103, 97, 114, 108, 97, 110, 100, 108, 97, 119, 50, 50, 46, 67, 108, 97, 115, 115, 105, 102, 121, 76, 111, 110, 103, 32, 103, 97, 114, 108, 97, 110, 100, 47, 103, 97, 114, 108, 97, 110, 100, 108, 97, 119, 50, 50, 46, 67, 108, 97, 115, 115, 105, 102, 121, 82, 111, 117, 110, 100, 115, 32, 103, 97, 114, 108, 97, 110, 100, 47, 103, 97, 114, 108, 97, 110, 100, 108, 97, 119, 49, 53, 46, 67, 114, 105, 116, 105, 99, 97, 108, 84, 101, 108, 108, 115, 32, 103, 97, 114, 108, 97, 110, 100, 47, 103, 97, 114, 108, 97, 110, 100, 108, 97, 119, 49, 53, 46, 67, 114, 105, 116, 105, 99, 97, 108, 69, 97, 114, 115, 32, 103, 97, 114, 108, 97, 110, 100, 47, 103, 97, 114, 108, 97, 110, 100, 108, 97, 119, 49, 53, 46, 67, 114, 105, 116, 105, 99, 97, 108, 82, 101, 102, 117, 115, 101, 115, 32, 103, 97, 114, 108, 97, 110, 100, 47, 103, 97, 114, 108, 97, 110, 100, 108, 97, 119, 49, 53, 46, 67, 114, 105, 116, 105, 99, 97, 108, 66, 101, 115, 105, 100, 101, 32, 103, 97, 114, 108, 97, 110, 100, 47, 103, 97, 114, 108, 97, 110, 100, 108, 97, 119, 49, 56, 46, 67, 111, 97, 114, 115, 101, 80, 97, 114, 116, 115, 32, 103, 97, 114, 108, 97, 110, 100, 47, 103, 97, 114, 108, 97, 110, 100, 108, 97, 119, 49, 56, 46, 67, 111, 97, 114, 115, 101, 74, 111, 105, 110, 101, 100, 32, 103, 97, 114, 108, 97, 110, 100, 47, 103, 97, 114, 108, 97, 110, 100, 108, 97, 119, 49, 56, 46, 67, 111, 97, 114, 115, 101, 82, 101, 102, 117, 115, 101, 115, 32, 103, 97, 114, 108, 97, 110, 100, 47, 103, 97, 114, 108, 97, 110, 100, 108, 97, 119, 49, 56, 46, 67, 111, 97, 114, 115, 101, 66, 101, 115, 105, 100, 101, 32, 103, 97, 114, 108, 97, 110, 100, 47, 103, 97, 114, 108, 97, 110, 100, 108, 97, 119, 50, 50, 46, 67, 108, 97, 115, 115, 105, 102, 121, 83, 104, 111, 119, 115, 32, 103, 97, 114, 108, 97, 110, 100, 47, 103, 97, 114, 108, 97, 110, 100, 108, 97, 119, 49, 55, 46, 75, 111, 101, 110, 105, 103, 80, 111, 111, 114, 32, 103, 97, 114, 108, 97, 110, 100, 47, 103, 97, 114, 108, 97, 110, 100, 108, 97, 119, 49, 55, 46, 75, 111, 101, 110, 105, 103, 72, 97, 108, 108, 32, 103, 97, 114, 108, 97, 110, 100, 47, 103, 97, 114, 108, 97, 110, 100, 108, 97, 119, 49, 55, 46, 75, 111, 101, 110, 105, 103, 76, 111, 110, 103, 32, 103, 97, 114, 108, 97, 110, 100, 47, 103, 97, 114, 108, 97, 110, 100, 108, 97, 119, 49, 55, 46, 75, 111, 101, 110, 105, 103, 67, 111, 118, 101, 114, 115, 32, 103, 97, 114, 108, 97, 110, 100, 47, 103, 97, 114, 108, 97, 110, 100, 108, 97, 119, 49, 55, 46, 75, 111, 101, 110, 105, 103, 84, 101, 108, 108, 115, 32, 103, 97, 114, 108, 97, 110, 100, 47, 103, 97, 114, 108, 97, 110, 100, 108, 97, 119, 50, 49, 46, 67, 111, 118, 101, 114, 84, 101, 108, 108, 115, 32, 103, 97, 114, 108, 97, 110, 100, 47, 103, 97, 114, 108, 97, 110, 100, 108, 97, 119, 50, 49, 46, 67, 111, 118, 101, 114, 76, 101, 97, 115, 116, 32, 103, 97, 114, 108, 97, 110, 100, 47, 103, 97, 114, 108, 97, 110, 100, 108, 97, 119, 50, 49, 46, 67, 111, 118, 101, 114, 76, 111, 110, 103, 32, 103, 97, 114, 108, 97, 110, 100, 47, 103, 97, 114, 108, 97, 110, 100, 108, 97, 119, 50, 49, 46, 67, 111, 118, 101, 114, 67, 121, 99, 108, 101] : List Nat).map Char.ofNat := by
  have h : Try.pinned.checked.prog.initOrder = String.ofList (([104, 97, 114, 110, 101, 115, 115, 32, 57, 51, 101, 57, 52, 57, 53, 97, 54, 54, 102, 97, 99, 54, 50, 54, 100, 51, 97, 54, 50, 97, 99, 55, 101, 49, 100, 50, 52, 52, 50, 99, 52, 53, 54, 102, 100, 97, 52, 98, 53, 52, 56, 56, 49, 102, 98, 97, 56, 50, 51, 99, 55, 99, 50, 97, 102, 99, 51, 100, 100, 57, 101, 99, 32, 99, 117, 116, 32, 97, 116, 32, 103, 97, 114, 108, 97, 110, 100, 47, 103, 97, 114, 108, 97, 110, 100, 108, 97, 119, 49, 49, 46, 83, 105, 110, 103, 108, 101, 76, 97, 114, 103, 101, 115, 116, 32, 103, 97, 114, 108, 97, 110, 100, 47, 103, 97, 114, 108, 97, 110, 100, 108, 97, 119, 49, 49, 46, 83, 105, 110, 103, 108, 101, 80, 97, 116, 104, 115, 32, 103, 97, 114, 108, 97, 110, 100, 47, 103, 97, 114, 108, 97, 110, 100, 108, 97, 119, 49, 49, 46, 83, 105, 110, 103, 108, 101, 82, 101, 102, 117, 115, 101, 115, 32, 103, 97, 114, 108, 97, 110, 100, 47, 103, 97, 114, 108, 97, 110, 100, 108, 97, 119, 49, 49, 46, 83, 105, 110, 103, 108, 101, 76, 111, 110, 103, 32, 103, 97, 114, 108, 97, 110, 100, 47, 103, 97, 114, 108, 97, 110, 100, 108, 97, 119, 49, 49, 46, 83, 105, 110, 103, 108, 101, 76, 97, 98, 101, 108, 115, 32, 103, 97, 114, 108, 97, 110, 100, 47, 103, 97, 114, 108, 97, 110, 100, 108, 97, 119, 49, 49, 46, 83, 105, 110, 103, 108, 101, 83, 116, 101, 109, 115, 32, 103, 97, 114, 108, 97, 110, 100, 47, 103, 97, 114, 108, 97, 110, 100, 108, 97, 119, 49, 49, 46, 83, 105, 110, 103, 108, 101, 71, 114, 111, 119, 115, 32, 103, 97, 114, 108, 97, 110, 100, 47, 103, 97, 114, 108, 97, 110, 100, 108, 97, 119, 50, 50, 46, 67, 108, 97, 115, 115, 105, 102, 121, 76, 97, 98, 101, 108, 115, 32, 103, 97, 114, 108, 97, 110, 100, 47, 103, 97, 114, 108, 97, 110, 100, 108, 97, 119, 50, 50, 46, 67, 108, 97, 115, 115, 105, 102, 121, 76, 111, 110, 103, 32, 103, 97, 114, 108, 97, 110, 100, 47, 103, 97, 114, 108, 97, 110, 100, 108, 97, 119, 50, 50, 46, 67, 108, 97, 115, 115, 105, 102, 121, 82, 111, 117, 110, 100, 115, 32, 103, 97, 114, 108, 97, 110, 100, 47, 103, 97, 114, 108, 97, 110, 100, 108, 97, 119, 49, 53, 46, 67, 114, 105, 116, 105, 99, 97, 108, 84, 101, 108, 108, 115, 32, 103, 97, 114, 108, 97, 110, 100, 47, 103, 97, 114, 108, 97, 110, 100, 108, 97, 119, 49, 53, 46, 67, 114, 105, 116, 105, 99, 97, 108, 69, 97, 114, 115, 32, 103, 97, 114, 108, 97, 110, 100, 47, 103, 97, 114, 108, 97, 110, 100, 108, 97, 119, 49, 53, 46, 67, 114, 105, 116, 105, 99, 97, 108, 82, 101, 102, 117, 115, 101, 115, 32, 103, 97, 114, 108, 97, 110, 100, 47, 103, 97, 114, 108, 97, 110, 100, 108, 97, 119, 49, 53, 46, 67, 114, 105, 116, 105, 99, 97, 108, 66, 101, 115, 105, 100, 101, 32, 103, 97, 114, 108, 97, 110, 100, 47, 103, 97, 114, 108, 97, 110, 100, 108, 97, 119, 49, 56, 46, 67, 111, 97, 114, 115, 101, 80, 97, 114, 116, 115, 32, 103, 97, 114, 108, 97, 110, 100, 47, 103, 97, 114, 108, 97, 110, 100, 108, 97, 119, 49, 56, 46, 67, 111, 97, 114, 115, 101, 74, 111, 105, 110, 101, 100, 32, 103, 97, 114, 108, 97, 110, 100, 47, 103, 97, 114, 108, 97, 110, 100, 108, 97, 119, 49, 56, 46, 67, 111, 97, 114, 115, 101, 82, 101, 102, 117, 115, 101, 115, 32, 103, 97, 114, 108, 97, 110, 100, 47, 103, 97, 114, 108, 97, 110, 100, 108, 97, 119, 49, 56, 46, 67, 111, 97, 114, 115, 101, 66, 101, 115, 105, 100, 101, 32, 103, 97, 114, 108, 97, 110, 100, 47, 103, 97, 114, 108, 97, 110, 100, 108, 97, 119, 50, 50, 46, 67, 108, 97, 115, 115, 105, 102, 121, 83, 104, 111, 119, 115, 32, 103, 97, 114, 108, 97, 110, 100, 47, 103, 97, 114, 108, 97, 110, 100, 108, 97, 119, 49, 55, 46, 75, 111, 101, 110, 105, 103, 80, 111, 111, 114, 32, 103, 97, 114, 108, 97, 110, 100, 47, 103, 97, 114, 108, 97, 110, 100, 108, 97, 119, 49, 55, 46, 75, 111, 101, 110, 105, 103, 72, 97, 108, 108, 32, 103, 97, 114, 108, 97, 110, 100, 47, 103, 97, 114, 108, 97, 110, 100, 108, 97, 119, 49, 55, 46, 75, 111, 101, 110, 105, 103, 76, 111, 110, 103, 32, 103, 97, 114, 108, 97, 110, 100, 47, 103, 97, 114, 108, 97, 110, 100, 108, 97, 119, 49, 55, 46, 75, 111, 101, 110, 105, 103, 67, 111, 118, 101, 114, 115, 32, 103, 97, 114, 108, 97, 110, 100, 47, 103, 97, 114, 108, 97, 110, 100, 108, 97, 119, 49, 55, 46, 75, 111, 101, 110, 105, 103, 84, 101, 108, 108, 115, 32, 103, 97, 114, 108, 97, 110, 100, 47, 103, 97, 114, 108, 97, 110, 100, 108, 97, 119, 50, 49, 46, 67, 111, 118, 101, 114, 84, 101, 108, 108, 115, 32, 103, 97, 114, 108, 97, 110, 100, 47, 103, 97, 114, 108, 97, 110, 100, 108, 97, 119, 50, 49, 46, 67, 111, 118, 101, 114, 76, 101, 97, 115, 116, 32, 103, 97, 114, 108, 97, 110, 100, 47, 103, 97, 114, 108, 97, 110, 100, 108, 97, 119, 50, 49, 46, 67, 111, 118, 101, 114, 76, 111, 110, 103, 32, 103, 97, 114, 108, 97, 110, 100, 47, 103, 97, 114, 108, 97, 110, 100, 108, 97, 119, 50, 49, 46, 67, 111, 118, 101, 114, 67, 121, 99, 108, 101] : List Nat).map Char.ofNat) := by kernel_rfl
  rw [h, String.toList_ofList]
theorem cutSigns : behindMainWord (wordsSigns Try.pinned.checked.prog.initOrder.toList) = ([[99, 117, 116], [97, 116], [103, 97, 114, 108, 97, 110, 100, 47, 103, 97, 114, 108, 97, 110, 100, 108, 97, 119, 49, 49, 46, 83, 105, 110, 103, 108, 101, 76, 97, 114, 103, 101, 115, 116], [103, 97, 114, 108, 97, 110, 100, 47, 103, 97, 114, 108, 97, 110, 100, 108, 97, 119, 49, 49, 46, 83, 105, 110, 103, 108, 101, 80, 97, 116, 104, 115], [103, 97, 114, 108, 97, 110, 100, 47, 103, 97, 114, 108, 97, 110, 100, 108, 97, 119, 49, 49, 46, 83, 105, 110, 103, 108, 101, 82, 101, 102, 117, 115, 101, 115], [103, 97, 114, 108, 97, 110, 100, 47, 103, 97, 114, 108, 97, 110, 100, 108, 97, 119, 49, 49, 46, 83, 105, 110, 103, 108, 101, 76, 111, 110, 103], [103, 97, 114, 108, 97, 110, 100, 47, 103, 97, 114, 108, 97, 110, 100, 108, 97, 119, 49, 49, 46, 83, 105, 110, 103, 108, 101, 76, 97, 98, 101, 108, 115], [103, 97, 114, 108, 97, 110, 100, 47, 103, 97, 114, 108, 97, 110, 100, 108, 97, 119, 49, 49, 46, 83, 105, 110, 103, 108, 101, 83, 116, 101, 109, 115], [103, 97, 114, 108, 97, 110, 100, 47, 103, 97, 114, 108, 97, 110, 100, 108, 97, 119, 49, 49, 46, 83, 105, 110, 103, 108, 101, 71, 114, 111, 119, 115], [103, 97, 114, 108, 97, 110, 100, 47, 103, 97, 114, 108, 97, 110, 100, 108, 97, 119, 50, 50, 46, 67, 108, 97, 115, 115, 105, 102, 121, 76, 97, 98, 101, 108, 115], [103, 97, 114, 108, 97, 110, 100, 47, 103, 97, 114, 108, 97, 110, 100, 108, 97, 119, 50, 50, 46, 67, 108, 97, 115, 115, 105, 102, 121, 76, 111, 110, 103], [103, 97, 114, 108, 97, 110, 100, 47, 103, 97, 114, 108, 97, 110, 100, 108, 97, 119, 50, 50, 46, 67, 108, 97, 115, 115, 105, 102, 121, 82, 111, 117, 110, 100, 115], [103, 97, 114, 108, 97, 110, 100, 47, 103, 97, 114, 108, 97, 110, 100, 108, 97, 119, 49, 53, 46, 67, 114, 105, 116, 105, 99, 97, 108, 84, 101, 108, 108, 115], [103, 97, 114, 108, 97, 110, 100, 47, 103, 97, 114, 108, 97, 110, 100, 108, 97, 119, 49, 53, 46, 67, 114, 105, 116, 105, 99, 97, 108, 69, 97, 114, 115], [103, 97, 114, 108, 97, 110, 100, 47, 103, 97, 114, 108, 97, 110, 100, 108, 97, 119, 49, 53, 46, 67, 114, 105, 116, 105, 99, 97, 108, 82, 101, 102, 117, 115, 101, 115], [103, 97, 114, 108, 97, 110, 100, 47, 103, 97, 114, 108, 97, 110, 100, 108, 97, 119, 49, 53, 46, 67, 114, 105, 116, 105, 99, 97, 108, 66, 101, 115, 105, 100, 101], [103, 97, 114, 108, 97, 110, 100, 47, 103, 97, 114, 108, 97, 110, 100, 108, 97, 119, 49, 56, 46, 67, 111, 97, 114, 115, 101, 80, 97, 114, 116, 115], [103, 97, 114, 108, 97, 110, 100, 47, 103, 97, 114, 108, 97, 110, 100, 108, 97, 119, 49, 56, 46, 67, 111, 97, 114, 115, 101, 74, 111, 105, 110, 101, 100], [103, 97, 114, 108, 97, 110, 100, 47, 103, 97, 114, 108, 97, 110, 100, 108, 97, 119, 49, 56, 46, 67, 111, 97, 114, 115, 101, 82, 101, 102, 117, 115, 101, 115], [103, 97, 114, 108, 97, 110, 100, 47, 103, 97, 114, 108, 97, 110, 100, 108, 97, 119, 49, 56, 46, 67, 111, 97, 114, 115, 101, 66, 101, 115, 105, 100, 101], [103, 97, 114, 108, 97, 110, 100, 47, 103, 97, 114, 108, 97, 110, 100, 108, 97, 119, 50, 50, 46, 67, 108, 97, 115, 115, 105, 102, 121, 83, 104, 111, 119, 115], [103, 97, 114, 108, 97, 110, 100, 47, 103, 97, 114, 108, 97, 110, 100, 108, 97, 119, 49, 55, 46, 75, 111, 101, 110, 105, 103, 80, 111, 111, 114], [103, 97, 114, 108, 97, 110, 100, 47, 103, 97, 114, 108, 97, 110, 100, 108, 97, 119, 49, 55, 46, 75, 111, 101, 110, 105, 103, 72, 97, 108, 108], [103, 97, 114, 108, 97, 110, 100, 47, 103, 97, 114, 108, 97, 110, 100, 108, 97, 119, 49, 55, 46, 75, 111, 101, 110, 105, 103, 76, 111, 110, 103], [103, 97, 114, 108, 97, 110, 100, 47, 103, 97, 114, 108, 97, 110, 100, 108, 97, 119, 49, 55, 46, 75, 111, 101, 110, 105, 103, 67, 111, 118, 101, 114, 115], [103, 97, 114, 108, 97, 110, 100, 47, 103, 97, 114, 108, 97, 110, 100, 108, 97, 119, 49, 55, 46, 75, 111, 101, 110, 105, 103, 84, 101, 108, 108, 115], [103, 97, 114, 108, 97, 110, 100, 47, 103, 97, 114, 108, 97, 110, 100, 108, 97, 119, 50, 49, 46, 67, 111, 118, 101, 114, 84, 101, 108, 108, 115], [103, 97, 114, 108, 97, 110, 100, 47, 103, 97, 114, 108, 97, 110, 100, 108, 97, 119, 50, 49, 46, 67, 111, 118, 101, 114, 76, 101, 97, 115, 116], [103, 97, 114, 108, 97, 110, 100, 47, 103, 97, 114, 108, 97, 110, 100, 108, 97, 119, 50, 49, 46, 67, 111, 118, 101, 114, 76, 111, 110, 103], [103, 97, 114, 108, 97, 110, 100, 47, 103, 97, 114, 108, 97, 110, 100, 108, 97, 119, 50, 49, 46, 67, 111, 118, 101, 114, 67, 121, 99, 108, 101]] : List (List Nat)).map (fun l => l.map Char.ofNat) := by
  rw [cutWords]
  kernel_rfl
theorem make_cut : ∀ (P : Program) (rest : List (List Char)), behindMainWord (wordsSigns P.initOrder.toList) = "cut".toList :: rest → P.make = some .cut := by
  intro P rest h
  unfold Program.make
  rw [h]
  rfl
theorem strip_cut (rest : List (List Char)) : stripLifts liftWords ("cut".toList :: rest) = ([], "cut".toList :: rest) := rfl
theorem lifts_cut : ∀ (P : Program) (rest : List (List Char)), behindMainWord (wordsSigns P.initOrder.toList) = "cut".toList :: rest → P.liftsFinal = false := by
  intro P rest h
  unfold Program.liftsFinal Program.headLifts
  rw [h, strip_cut]
  rfl
theorem enter_cut : ∀ (P : Program) (rest : List (List Char)), behindMainWord (wordsSigns P.initOrder.toList) = "cut".toList :: rest → P.laysLater = false → P.bearsReflect = false → P.doorFits [] = true → P.mayEnter = true := by
  intro P rest h h1 h2 h3
  unfold Program.mayEnter
  rw [h]
  simp only [strip_cut, h1, h2, h3]
  rfl
theorem cut_make : Try.pinned.checked.prog.make = some .cut := make_cut _ _ cutSigns
theorem cut_lifts : Try.pinned.checked.prog.liftsFinal = false := lifts_cut _ _ cutSigns
theorem cut_enter : Try.pinned.checked.prog.mayEnter = true := enter_cut _ _ cutSigns (by kernel_rfl) (by kernel_rfl) (by kernel_rfl)
end Go.Proofs.Ytgddfmfiiodgbaa

/- What the labels of a forest tell that cannot grow any more (no program in sight). -/
namespace Go.Proofs.Ytgddfmfiiodgbaa
set_option linter.unusedVariables false
set_option linter.unusedSimpArgs false

/-- The labels of vertices, behind a largest matching. -/
structure LabP (n : Nat) (E : Nat → Nat → Prop) (M : Nat → Option Nat) (L : Nat → Nat) : Prop where
  le : ∀ v, v < n → L v ≤ 2
  free : ∀ v, v < n → M v = none → L v = 1
  odd : ∀ v, v < n → L v = 2 → ∃ x, M v = some x ∧ L x = 1
  out : ∀ v x, v < n → L v = 0 → M v = some x → L x = 0
  edge : ∀ v x, E v x → L v = 1 → L x ≠ 0
  near : ∀ v, v < n → L v = 2 → ∃ u, E u v ∧ L u = 1
  even : ∀ v, v < n → (L v = 1 ↔ ∃ M', IsMat n E M' ∧ (freeL n M').length ≤ (freeL n M).length ∧ M' v = none)

theorem lab_of {n : Nat} {E : Nat → Nat → Prop} {M : Nat → Option Nat} {S : FoS} {D : Nat → Nat} {L : Nat → Nat} (hg : IsGr n E) (hM : IsMat n E M) (h : FInv n E M S D) (hc : Closed E M S) (hL : ∀ v, L v = if S.outer v = true then 1 else S.label v) : LabP n E M L := by
  have h1 : ∀ v, v < n → (L v = 1 ↔ S.outer v = true) := fun v hv => by
    rw [hL]
    by_cases ho : S.outer v = true
    · rw [if_pos ho]; simp [ho]
    · rw [if_neg ho]
      exact ⟨fun e => (h.one v hv e).1, fun e => absurd e ho⟩
  have h0 : ∀ v, v < n → (L v = 0 ↔ S.label v = 0) := fun v hv => by
    rw [hL]
    by_cases ho : S.outer v = true
    · rw [if_pos ho]
      refine ⟨fun e => by omega, fun e => ?_⟩
      rw [h.zero v hv e] at ho; cases ho
    · rw [if_neg ho]
  have h2 : ∀ v, v < n → L v = 2 → S.label v = 2 ∧ S.outer v = false := fun v hv e => by
    rw [hL] at e
    by_cases ho : S.outer v = true
    · rw [if_pos ho] at e; omega
    · rw [if_neg ho] at e; exact ⟨e, by simpa using ho⟩
  refine ⟨fun v hv => ?_, fun v hv hf => ?_, fun v hv e => ?_, fun v x hv e hm => ?_, fun v x hE e e0 => ?_, fun v hv e => ?_, fun v hv => ⟨fun e => ?_, fun ⟨M', hM', hl, hf⟩ => ?_⟩⟩
  · rw [hL]
    by_cases ho : S.outer v = true
    · rw [if_pos ho]; omega
    · rw [if_neg ho]; exact h.lab v hv
  · exact (h1 v hv).2 (h.one v hv (h.free v hv hf).1).1
  · obtain ⟨x, g1, g2, _⟩ := h.two v hv (h2 v hv e).1
    have hx := hM.lt (hM.symm g1)
    exact ⟨x, g1, (h1 x hx).2 (h.one x hx g2).1⟩
  · have hx := hM.lt (hM.symm hm)
    exact (h0 x hx).2 (h.mate0 hM hv ((h0 v hv).1 e) hm)
  · have hv := hg.lt hE
    have hx := hg.lt (hg.symm hE)
    have hx0 := (h0 x hx).1 e0
    rcases hc v x hE ((h1 v hv).1 e) with hm | ⟨hm, _⟩
    · have h3 := h.mate0 hM hx hx0 (hM.symm hm)
      have h4 := (h0 v hv).2 h3
      omega
    · exact hm hx0
  · obtain ⟨x, g1, g2, g3, g4, _⟩ := h.two v hv (h2 v hv e).1
    exact ⟨S.pred v, g4, (h1 _ (hg.lt g4)).2 g3⟩
  · obtain ⟨r, p, _, _, _, _, hs, hp, hn, _⟩ := h.path hg hM hv ((h1 v hv).1 e)
    obtain ⟨l, rfl⟩ := hs.first
    obtain ⟨M', a, b, c⟩ := hp.flip hg hM hn hv
    exact ⟨M', a, Nat.le_of_eq c, b⟩
  · obtain ⟨l, hp, hn⟩ := missed hg hM hM' (h.closed_none hg hM hc) hl hv hf
    refine (h1 v hv).2 ((h.closed_even hg hM hc hp hn (hp.lt hg hM fun x hx => ?_)).1 v l rfl)
    simp at hx
    rw [← hx.1]; exact hv
end Go.Proofs.Ytgddfmfiiodgbaa

/- How many edges a largest matching within some vertices has (no program in sight). -/
namespace Go.Proofs.Ytgddfmfiiodgbaa
set_option linter.unusedVariables false
set_option linter.unusedSimpArgs false

/-- All vertices with mates are among some. -/
def Within (p : Nat → Bool) (M : Nat → Option Nat) : Prop := ∀ v w, M v = some w → p v = true
/-- So many edges a largest matching within some vertices has. -/
def IsMx (n : Nat) (E : Nat → Nat → Prop) (p : Nat → Bool) (k : Nat) : Prop := (∃ M, IsMat n E M ∧ Within p M ∧ sizeM n M = k) ∧ ∀ M, IsMat n E M → Within p M → sizeM n M ≤ k

section
variable {n : Nat} {E : Nat → Nat → Prop} {M M' : Nat → Option Nat} {p q : Nat → Bool} {k k' v w : Nat}

theorem IsMx.uniq (h : IsMx n E p k) (h' : IsMx n E p k') : k = k' := by
  obtain ⟨⟨M, a, b, c⟩, d⟩ := h
  obtain ⟨⟨M', a', b', c'⟩, d'⟩ := h'
  have := d _ a' b'
  have := d' _ a b
  omega
theorem IsMx.congr (h : IsMx n E p k) (hp : ∀ v, v < n → p v = q v) : IsMx n E q k := by
  obtain ⟨⟨M, a, b, c⟩, d⟩ := h
  exact ⟨⟨M, a, fun v w hm => by rw [← hp v (a.lt hm)]; exact b v w hm, c⟩, fun M' h1 h2 => d M' h1 fun v w hm => by rw [hp v (h1.lt hm)]; exact h2 v w hm⟩
theorem none_mat : IsMat n E (fun _ => none) := ⟨fun h => (by cases h), fun h => (by cases h), fun h => (by cases h)⟩
theorem size_none : sizeM n (fun _ => none) = 0 := by simp [sizeM, upL, isUp]
theorem mx_empty (hp : ∀ v, v < n → p v = false) : IsMx n E p 0 := by
  refine ⟨⟨_, none_mat, fun v w h => (by cases h), size_none⟩, fun M hM hW => ?_⟩
  have : upL n M = [] := by
    rw [List.eq_nil_iff_forall_not_mem]
    intro v hv
    obtain ⟨h1, u, h2, _⟩ := mem_upL.1 hv
    have := hW v u h2
    rw [hp v h1] at this
    cases this
  simp [sizeM, this]
theorem mx_all (hg : IsGr n E) (hM : IsMat n E M) (hno : ∀ p, ¬ AugW E M p) (hp : ∀ v, v < n → p v = true) : IsMx n E p (sizeM n M) :=
  ⟨⟨M, hM, fun v w h => hp v (hM.lt h), rfl⟩, fun M' h1 _ => size_max hg hM h1 hno⟩
theorem mx_exists (hg : IsGr n E) : ∃ k, IsMx n E p k := by
  have hb : ∀ M, IsMat n E M → sizeM n M ≤ n := fun M h => by have := size_free hg h; omega
  have key : ∀ d k, n - k ≤ d → (∃ M, IsMat n E M ∧ Within p M ∧ sizeM n M = k) → ∃ k, IsMx n E p k := by
    intro d
    induction d with
    | zero =>
      rintro k hk ⟨M, a, b, c⟩
      exact ⟨k, ⟨M, a, b, c⟩, fun M' h1 h2 => by have := hb M' h1; omega⟩
    | succ d ih =>
      rintro k hk ⟨M, a, b, c⟩
      by_cases h : ∃ M', IsMat n E M' ∧ Within p M' ∧ k < sizeM n M'
      · obtain ⟨M', h1, h2, h3⟩ := h
        have := hb M' h1
        exact ih (sizeM n M') (by omega) ⟨M', h1, h2, rfl⟩
      · refine ⟨k, ⟨M, a, b, c⟩, fun M' h1 h2 => ?_⟩
        rcases Nat.lt_or_ge k (sizeM n M') with h3 | h3
        · exact absurd ⟨M', h1, h2, h3⟩ h
        · exact h3
  exact key n 0 (by omega) ⟨_, none_mat, fun v w h => (by cases h), size_none⟩

theorem pair_size (hg : IsGr n E) (hM : IsMat n E M) (hE : E v w) (hv : M v = none) (hw : M w = none) : IsMat n E (upd (upd M v (some w)) w (some v)) ∧ sizeM n (upd (upd M v (some w)) w (some v)) = sizeM n M + 1 := by
  have hne : v ≠ w := fun e => hg.irr v (by rw [← e] at hE; exact hE)
  have ha : AugW E M [v, w] := ⟨v, w, [], rfl, hv, hE, .root hw, by simp [hne]⟩
  have h1 := ha.turn hg hM
  have h2 := size_turn hg hM ha
  have e : turnF [v, w] M = upd (upd M v (some w)) w (some v) := by simp [turnF]
  rw [e] at h1 h2
  exact ⟨h1.1, h2⟩
/-- A pair taken away. -/
theorem part_size (hg : IsGr n E) (hM : IsMat n E M) (hm : M v = some w) : IsMat n E (upd (upd M v none) w none) ∧ sizeM n M = sizeM n (upd (upd M v none) w none) + 1 ∧ (∀ x y, upd (upd M v none) w none x = some y → x ≠ v ∧ x ≠ w ∧ M x = some y) := by
  have hE := hM.edge hm
  have hne : v ≠ w := fun e => hg.irr v (by rw [← e] at hE; exact hE)
  have hval : ∀ x y, upd (upd M v none) w none x = some y → x ≠ v ∧ x ≠ w ∧ M x = some y := by
    intro x y h
    unfold upd at h
    by_cases h1 : x = w
    · rw [if_pos h1] at h; cases h
    · rw [if_neg h1] at h
      by_cases h2 : x = v
      · rw [if_pos h2] at h; cases h
      · rw [if_neg h2] at h; exact ⟨h2, h1, h⟩
  have hN : IsMat n E (upd (upd M v none) w none) := by
    refine ⟨fun {x y} h => ?_, fun {x y} h => hM.edge (hval x y h).2.2, fun {x y} h => hM.lt (hval x y h).2.2⟩
    obtain ⟨h1, h2, h3⟩ := hval x y h
    have h4 := hM.symm h3
    have h5 : y ≠ v := fun e => by rw [e, hm] at h4; cases h4; exact h2 rfl
    have h6 : y ≠ w := fun e => by rw [e, hM.symm hm] at h4; cases h4; exact h1 rfl
    rw [upd_ne _ _ h6, upd_ne _ _ h5]; exact h4
  have h1 := (pair_size hg hN hE (by rw [upd_ne _ _ hne, upd_same]) (upd_same _ _ _)).2
  have e : upd (upd (upd (upd M v none) w none) v (some w)) w (some v) = M := by
    funext x
    unfold upd
    by_cases h2 : x = w
    · rw [if_pos h2, h2, hM.symm hm]
    · rw [if_neg h2]
      by_cases h3 : x = v
      · rw [if_pos h3, h3, hm]
      · rw [if_neg h3, if_neg h2, if_neg h3]
  rw [e] at h1
  exact ⟨hN, h1, hval⟩

/-- As IsMx, of those matchings that leave v alone or join it with one ahead of w0. -/
def PMx (n : Nat) (E : Nat → Nat → Prop) (p : Nat → Bool) (v w0 k : Nat) : Prop := (∃ M, IsMat n E M ∧ Within p M ∧ sizeM n M = k) ∧ ∀ M, IsMat n E M → Within p M → (∀ w, M v = some w → w < w0) → sizeM n M ≤ k

theorem pmx_start (hg : IsGr n E) (hlow : ∀ u, u < v → p u = false) (hq : ∀ u, q u = (p u && !decide (u = v))) (h : IsMx n E q k) : PMx n E p v (v + 1) k := by
  obtain ⟨⟨M, a, b, c⟩, d⟩ := h
  refine ⟨⟨M, a, fun x y hm => ?_, c⟩, fun M' h1 h2 h3 => d M' h1 fun x y hm => ?_⟩
  · have := b x y hm; rw [hq] at this; simp at this; exact this.1
  · rw [hq]
    have h4 := h2 x y hm
    simp [h4]
    rintro rfl
    have h5 := h3 y hm
    have h6 := h2 y x (h1.symm hm)
    by_cases h7 : y < x
    · rw [hlow y h7] at h6; cases h6
    · obtain rfl : y = x := by omega
      exact hg.irr y (h1.edge hm)
theorem pmx_no (hg : IsGr n E) (hq : ∀ u, q u = (p u && !decide (u = v))) (h : PMx n E p v w k) (hno : q w = false ∨ ¬ E v w) : PMx n E p v (w + 1) k := by
  refine ⟨h.1, fun M h1 h2 h3 => h.2 M h1 h2 fun x hx => ?_⟩
  have h4 := h3 x hx
  by_cases h5 : x < w
  · exact h5
  · obtain rfl : x = w := by omega
    rcases hno with h6 | h6
    · rw [hq] at h6
      have h7 := h2 x v (h1.symm hx)
      simp [h7] at h6
      subst h6
      exact absurd (h1.edge hx) (hg.irr _)
    · exact absurd (h1.edge hx) h6
theorem pmx_yes {r : Nat → Bool} (hg : IsGr n E) (hpv : p v = true) (hq : ∀ u, q u = (p u && !decide (u = v))) (hr : ∀ u, r u = (q u && !decide (u = w))) (h : PMx n E p v w k) (hw : q w = true) (hE : E v w) (hk : IsMx n E r k') : PMx n E p v (w + 1) (max k (1 + k')) := by
  have hpw : p w = true := by rw [hq] at hw; simp at hw; exact hw.1
  obtain ⟨⟨M0, a0, b0, c0⟩, d0⟩ := hk
  have hrv : r v = false := by rw [hr, hq]; simp
  have hrw : r w = false := by rw [hr]; simp
  have hMv : M0 v = none := by
    cases hm : M0 v with
    | none => rfl
    | some x => have := b0 v x hm; rw [hrv] at this; cases this
  have hMw : M0 w = none := by
    cases hm : M0 w with
    | none => rfl
    | some x => have := b0 w x hm; rw [hrw] at this; cases this
  have hps := pair_size hg a0 hE hMv hMw
  refine ⟨?_, fun M h1 h2 h3 => ?_⟩
  · by_cases hle : 1 + k' ≤ k
    · rw [Nat.max_eq_left hle]; exact h.1
    · rw [Nat.max_eq_right (by omega)]
      refine ⟨_, hps.1, fun x y hm => ?_, by rw [hps.2, c0]; omega⟩
      unfold upd at hm
      by_cases h4 : x = w
      · rw [h4]; exact hpw
      · rw [if_neg h4] at hm
        by_cases h5 : x = v
        · rw [h5]; exact hpv
        · rw [if_neg h5] at hm
          have := b0 x y hm
          rw [hr, hq] at this
          simp at this
          exact this.1.1
  · by_cases h4 : M v = some w
    · obtain ⟨g1, g2, g3⟩ := part_size hg h1 h4
      have := d0 _ g1 fun x y hm => by
        obtain ⟨h5, h6, h7⟩ := g3 x y hm
        rw [hr, hq, h2 x y h7]
        simp [h5, h6]
      omega
    · have := h.2 M h1 h2 fun x hx => by
        have h5 := h3 x hx
        by_cases h6 : x = w
        · rw [h6] at hx; exact absurd hx h4
        · omega
      omega
theorem pmx_end (h : PMx n E p v w k) (hw : n ≤ w) : IsMx n E p k :=
  ⟨h.1, fun M h1 h2 => h.2 M h1 h2 fun x hx => Nat.lt_of_lt_of_le (h1.lt (h1.symm hx)) hw⟩
/-- No vertex may be joined: the first one is left alone. -/
theorem IsMx.size (hg : IsGr n E) (hM : IsMat n E M) (hno : ∀ p, ¬ AugW E M p) (hp : ∀ v, v < n → p v = true) (h : IsMx n E p k) : sizeM n M = k := (mx_all hg hM hno hp).uniq h
/-- A vertex that some largest matching leaves alone. -/
theorem miss_mx (hg : IsGr n E) (hM : IsMat n E M) (hno : ∀ p, ¬ AugW E M p) (hv : v < n) (hp : ∀ u, u < n → p u = !decide (u = v)) (h : IsMx n E p k) : (∃ M', IsMat n E M' ∧ (freeL n M').length ≤ (freeL n M).length ∧ M' v = none) ↔ k = sizeM n M := by
  have hf := size_free hg hM
  constructor
  · rintro ⟨M', h1, h2, h3⟩
    have hf' := size_free hg h1
    have h4 := h.2 M' h1 fun x y hm => by
      rw [hp x (h1.lt hm)]
      simp
      rintro rfl
      rw [h3] at hm; cases hm
    obtain ⟨M2, a, b, c⟩ := h.1
    have := size_max hg hM a hno
    omega
  · rintro rfl
    obtain ⟨M', a, b, c⟩ := h.1
    have hf' := size_free hg a
    refine ⟨M', a, by omega, ?_⟩
    cases hm : M' v with
    | none => rfl
    | some x => have := b v x hm; rw [hp v hv] at this; simp at this
end

/-- Without its lowest bit. -/
theorem low_bit {s v : Nat} (hv : s.testBit v = true) (hlow : ∀ u, u < v → s.testBit u = false) (w : Nat) : (s &&& (s - 1)).testBit w = (s.testBit w && !decide (w = v)) := by
  have hmod : s % 2 ^ v = 0 := by
    apply Nat.eq_of_testBit_eq
    intro i
    rw [Nat.testBit_mod_two_pow, Nat.zero_testBit]
    by_cases hi : i < v
    · simp [hlow i hi]
    · simp [hi]
  obtain ⟨t, ht⟩ : ∃ t, s = 2 ^ v * t := ⟨s / 2 ^ v, by have := Nat.div_add_mod s (2 ^ v); omega⟩
  have hp : 0 < 2 ^ v := Nat.two_pow_pos v
  have htb : ∀ j, s.testBit j = if j < v then false else t.testBit (j - v) := fun j => by
    have := Nat.testBit_two_pow_mul_add t hp j
    rw [Nat.add_zero, ← ht] at this
    rw [this]
    simp
  have ht0 : t.testBit 0 = true := by have := htb v; rw [hv] at this; simpa using this.symm
  obtain ⟨q, rfl⟩ : ∃ q, t = 2 * q + 1 := ⟨t / 2, by simp [Nat.testBit_zero] at ht0; omega⟩
  have hs1 : s - 1 = 2 ^ v * (2 * q) + (2 ^ v - 1) := by rw [ht, Nat.mul_add]; omega
  rw [Nat.testBit_and, hs1, Nat.testBit_two_pow_mul_add _ (by omega), htb]
  by_cases h1 : w < v
  · simp [h1]
  · rw [if_neg h1, if_neg h1]
    by_cases h2 : w = v
    · subst h2; simp
    · obtain ⟨j, hj⟩ : ∃ j, w - v = j + 1 := ⟨w - v - 1, by omega⟩
      rw [hj, Nat.testBit_succ, Nat.testBit_succ]
      have e1 : (2 * q + 1) / 2 = q := by omega
      have e2 : 2 * q / 2 = q := by omega
      rw [e1, e2]
      simp [h2]
end Go.Proofs.Ytgddfmfiiodgbaa

/- Rows of small numbers. -/
namespace Go.Proofs.Ytgddfmfiiodgbaa
open Go Go.RowKit
set_option maxRecDepth 100000
set_option linter.unusedVariables false
set_option linter.unusedSimpArgs false

/-- A row of small numbers by one's own function. -/
def natL (n : Nat) (f : Nat → Nat) : List Int := (List.range n).map fun v => ((f v : Nat) : Int)
theorem natL_get {n v : Nat} {f : Nat → Nat} (hv : v < n) : (natL n f)[v]? = some ((f v : Nat) : Int) := by simp [natL, hv]
theorem natL_length (n : Nat) (f : Nat → Nat) : (natL n f).length = n := by simp [natL]
theorem natL_set {n : Nat} (f : Nat → Nat) (v : Nat) (x : Nat) (y : Int) (hy : y = (x : Int)) : (natL n f).set v y = natL n (upd f v x) := by
  subst hy
  apply List.ext_getElem?
  intro j
  rw [List.getElem?_set]
  by_cases hj : v = j
  · subst hj
    by_cases hn : v < n
    · simp [natL, hn, upd]
    · simp [natL, hn]
  · rw [if_neg hj]
    simp only [natL, List.getElem?_map]
    by_cases hjn : j < n
    · simp [hjn, upd, Ne.symm hj]
    · simp [hjn]
theorem natL_made (n : Nat) : (Obj.cells (madeCells #[Value.int .i64 0] n) 3) = .cells (icells (natL n fun _ => 0)).toArray 3 := by
  rw [made_const]
  congr 1
  simp [rowOf, icells, natL, List.map_map]

end Go.Proofs.Ytgddfmfiiodgbaa

/- What a law of single holds in memory: a graph, a matching, labels. -/
namespace Go.Proofs.Ytgddfmfiiodgbaa
open Go Go.RowKit
set_option maxRecDepth 100000
set_option linter.unusedVariables false
set_option linter.unusedSimpArgs false

/-- Reference's Right of what is a matching. -/
theorem rmright_mat {n : Nat} {es : List (Int × Int)} {M : Nat → Option Nat} (A mA : Option Addr) (c mc : Nat) (w : World) (hr : Reads w A (pcells es)) (hc : es.length ≤ c) (hP : RightP n es) (hM : IsMat n (adjE es) M) (hrm : Reads w mA (icells (mateL n M))) :
    Calls Try.prog 34 #[.agg #[.int .i64 (n : Int), .slice A es.length c], .slice mA n mc] w fun e w' => e = .returned (.bool true) ∧ Below w.heap.size w w' := by
  refine (rmright_yes n es A mA c mc (mateL n M) w hr hc ((right_iff _ _).2 hP) (mateL_length n M) hrm).mono ?_
  rintro e w' ⟨b, rfl, hb, hbl⟩
  rw [hb.2 ⟨M, rfl, hM⟩]
  exact ⟨rfl, hbl⟩

/-- What a law holds in memory: a graph, a matching. -/
structure GMW (w : World) (n : Nat) (es : List (Int × Int)) (A : Option Addr) (c b : Nat) (mA : Option Addr) (M : Nat → Option Nat) (wc : World) : Prop where
  box : Box2 w b (.int .i64 (n : Int)) (.slice A es.length c) 25 wc
  rd : Reads wc A (pcells es)
  rm : Reads wc mA (icells (mateL n M))
theorem GMW.go {w : World} {n : Nat} {es : List (Int × Int)} {A : Option Addr} {c b : Nat} {mA : Option Addr} {M : Nat → Option Nat} {wc wd : World} (h : GMW w n es A c b mA M wc) (hb : Below wc.heap.size wc wd) : GMW w n es A c b mA M wd := ⟨h.box.go hb, h.rd.below hb, h.rm.below hb⟩

theorem labL_get {n v : Nat} {S : FoS} (hv : v < n) : (labL n S)[v]? = some ((labF S v : Nat) : Int) := by simp [labL, hv]
theorem lab_labF {n : Nat} {E : Nat → Nat → Prop} {M : Nat → Option Nat} {S : FoS} {D : Nat → Nat} (hg : IsGr n E) (hM : IsMat n E M) (h : FInv n E M S D) (hc : Closed E M S) : LabP n E M (labF S) := lab_of hg hM h hc fun v => rfl
theorem labL_nat (n : Nat) (S : FoS) : labL n S = natL n (labF S) := rfl
end Go.Proofs.Ytgddfmfiiodgbaa
