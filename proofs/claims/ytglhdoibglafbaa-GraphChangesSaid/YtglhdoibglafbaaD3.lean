/- Walks of slices.SortFunc at one edge. -/
import Derived.Test.YtglhdoibglafbaaD2
namespace Go.Proofs.Ytglhdoibglafbaa
open Go Go.RowKit
set_option maxRecDepth 100000
set_option linter.unusedVariables false

theorem len64_1 (w : World) : Calls Try.prog 116 #[.int .u64 1] w fun e w' => e = .returned (.int .i64 1) ∧ w = w' := by
  go_enter Try.func116, Try.ntmps116
  go_wp2
  go_ret
  exact ⟨by kernel_rfl, rfl⟩

theorem len_1 (w : World) : Calls Try.prog 95 #[.int .u64 1] w fun e w' => e = .returned (.int .i64 1) ∧ w = w' := by
  go_enter Try.func95, Try.ntmps95
  go_wp2_with (go_at_call 116; refine (len64_1 _).mono ?_; rintro e w1 ⟨rfl, rfl⟩)
  go_ret
  simp

theorem ins_1 (A : Option Addr) (c : Nat) (fv : Value) (w : World) : Calls Try.prog 107 #[.slice A 1 c, .int .i64 0, .int .i64 1, fv] w fun e w' => e = .returned (.tuple #[]) ∧ w = w' := by
  go_enter Try.func107, Try.ntmps107
  go_wp2
  go_rounds 1
  go_end0
  simp

theorem pdq_1 (A : Option Addr) (c : Nat) (fv : Value) (l : Int) (w : World) : Calls Try.prog 94 #[.slice A 1 c, .int .i64 0, .int .i64 1, .int .i64 l, fv] w fun e w' => e = .returned (.tuple #[]) ∧ w = w' := by
  go_enter Try.func94, Try.ntmps94
  go_wp2
  refine wp_loop_rounds 1 ?_
  rw [rounds_succ]
  go_wp2_with (go_at_call 107; refine (ins_1 A c fv _).mono ?_; rintro e w1 ⟨rfl, rfl⟩)
  (try simp only [Exit.inBlock, Exit.then])
  refine bodyPost_ret (results_none rfl _ _ _) rfl ?_
  exact ⟨rfl, rfl⟩

theorem sort_1 (A : Option Addr) (c : Nat) (fv : Value) (w : World) : Calls Try.prog 67 #[.slice A 1 c, fv] w fun e w' => e = .returned (.tuple #[]) ∧ w = w' := by
  go_enter Try.func67, Try.ntmps67
  go_wp2_with (first | (go_at_call 95; refine (len_1 _).mono ?_; rintro e w1 ⟨rfl, rfl⟩) | (go_at_call 94; refine (pdq_1 A c fv _ _).mono ?_; rintro e w1 ⟨rfl, rfl⟩))
  go_end0
  simp

end Go.Proofs.Ytglhdoibglafbaa
