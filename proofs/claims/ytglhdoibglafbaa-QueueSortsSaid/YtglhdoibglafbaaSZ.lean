/- Walks of slices.SortFunc at no entry. -/
import Derived.Test.YtglhdoibglafbaaQ1
namespace Go.Proofs.Ytglhdoibglafbaa
open Go Go.RowKit
set_option maxRecDepth 100000
set_option linter.unusedVariables false

theorem len64_0 (w : World) : Calls Try.prog 116 #[.int .u64 0] w fun e w' => e = .returned (.int .i64 0) ∧ w = w' := by
  go_enter Try.func116, Try.ntmps116
  go_wp2
  go_ret
  exact ⟨by kernel_rfl, rfl⟩

theorem len_0 (w : World) : Calls Try.prog 95 #[.int .u64 0] w fun e w' => e = .returned (.int .i64 0) ∧ w = w' := by
  go_enter Try.func95, Try.ntmps95
  go_wp2_with (go_at_call 116; refine (len64_0 _).mono ?_; rintro e w1 ⟨rfl, rfl⟩)
  go_ret
  simp

theorem ins_0N (A : Option Addr) (c : Nat) (fv : Value) (w : World) : Calls Try.prog 119 #[.slice A 0 c, .int .i64 0, .int .i64 0, fv] w fun e w' => e = .returned (.tuple #[]) ∧ w = w' := by
  go_enter Try.func119, Try.ntmps119
  go_wp2
  go_rounds 1
  go_end0
  simp

theorem pdq_0N (A : Option Addr) (c : Nat) (fv : Value) (l : Int) (w : World) : Calls Try.prog 102 #[.slice A 0 c, .int .i64 0, .int .i64 0, .int .i64 l, fv] w fun e w' => e = .returned (.tuple #[]) ∧ w = w' := by
  go_enter Try.func102, Try.ntmps102
  go_wp2
  refine wp_loop_rounds 1 ?_
  rw [rounds_succ]
  go_wp2_with (go_at_call 119; refine (ins_0N A c fv _).mono ?_; rintro e w1 ⟨rfl, rfl⟩)
  (try simp only [Exit.inBlock, Exit.then])
  refine bodyPost_ret (results_none rfl _ _ _) rfl ?_
  exact ⟨rfl, rfl⟩

theorem sort_0N (A : Option Addr) (c : Nat) (fv : Value) (w : World) : Calls Try.prog 84 #[.slice A 0 c, fv] w fun e w' => e = .returned (.tuple #[]) ∧ w = w' := by
  go_enter Try.func84, Try.ntmps84
  go_wp2_with (first | (go_at_call 95; refine (len_0 _).mono ?_; rintro e w1 ⟨rfl, rfl⟩) | (go_at_call 102; refine (pdq_0N A c fv _ _).mono ?_; rintro e w1 ⟨rfl, rfl⟩))
  go_end0
  simp

end Go.Proofs.Ytglhdoibglafbaa
