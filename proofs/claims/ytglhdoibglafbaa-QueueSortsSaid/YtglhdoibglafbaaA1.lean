/- Walks of the small functions of graph. -/
import Derived.Test.YtglhdoibglafbaaProg
import Derived.Test.YtglhdoibglafbaaB0
import Derived.Test.YtglhdoibglafbaaBA
import Derived.Test.YtglhdoibglafbaaG0
namespace Go.Proofs.Ytglhdoibglafbaa
open Go Go.RowKit
set_option maxRecDepth 100000
set_option linter.unusedVariables false

theorem EI_edge : EI Try.prog 23 28 (.agg #[.int .i64 0, .int .i64 0]) 2 16 := ⟨Try.underlying23, by kernel_rfl, rfl, by decide, by decide⟩
theorem EI_int : EI Try.prog 26 3 (.int .i64 0) 1 8 := ⟨Try.underlying26, by kernel_rfl, rfl, by decide, by decide⟩


theorem cmpInt (a b : Int) (w : World) :
    Calls Try.prog 97 #[.int .i64 a, .int .i64 b] w fun e w' => e = .returned (.int .i64 (if a < b then -1 else if b < a then 1 else 0)) ∧ w = w' := by
  by_cases h : a < b
  · go_enter Try.func97, Try.ntmps97
    go_wp2
    go_ret
    simp
  · by_cases h' : b < a
    · go_enter Try.func97, Try.ntmps97
      go_wp2
      go_ret
      simp
    · go_enter Try.func97, Try.ntmps97
      go_wp2
      go_ret
      simp

theorem aheadE (a b c d : Int) (w : World) :
    Calls Try.prog 69 #[.agg #[.int .i64 a, .int .i64 b], .agg #[.int .i64 c, .int .i64 d]] w fun e w' => e = .returned (.bool (decide (a < c ∨ a = c ∧ b < d))) ∧ Below w.heap.size w w' := by
  by_cases h : a < c
  · go_enter Try.func69, Try.ntmps69
    go_wp2
    go_ret
    exact ⟨by simp [h], by go_grown⟩
  · by_cases h' : a = c
    · subst h'
      go_enter Try.func69, Try.ntmps69
      go_wp2
      go_ret
      exact ⟨by simp, by go_grown⟩
    · have h2 : (a == c) = false := by simpa using h'
      go_enter Try.func69, Try.ntmps69
      go_wp2
      go_ret
      exact ⟨by simp; omega, by go_grown⟩

theorem or2 (x y : Int) (g : Nat) (w : World) (h0 : w.cell? ⟨g, 0, none⟩ = some (.int .i64 x)) (h1 : w.cell? ⟨g, 1, none⟩ = some (.int .i64 y)) :
    Calls Try.prog 96 #[.slice (some ⟨g, 0, none⟩) 2 2] w fun e w' => e = .returned (.int .i64 (if x = 0 then y else x)) ∧ w = w' := by
  by_cases hx : x = 0
  · subst hx
    by_cases hy : y = 0
    · subst hy
      go_enter Try.func96, Try.ntmps96
      go_wp2
      go_rounds 3
      go_ret
      simp
    · have hy' : (y != 0) = true := by simpa using hy
      go_enter Try.func96, Try.ntmps96
      go_wp2
      go_rounds 3
      go_ret
      simp
  · have hx' : (x != 0) = true := by simpa using hx
    go_enter Try.func96, Try.ntmps96
    go_wp2
    go_rounds 3
    go_ret
    simp

theorem compareE (a b c d : Int) (w : World) :
    Calls Try.prog 68 #[.agg #[], .agg #[.int .i64 a, .int .i64 b], .agg #[.int .i64 c, .int .i64 d]] w fun e w' => e = .returned (.int .i64 (cmpE a b c d)) ∧ Below w.heap.size w w' := by
  have H1 := cmpE_eq a b c d
  obtain ⟨p, hp⟩ : ∃ p : Int, p = (if a < c then (-1 : Int) else if c < a then 1 else 0) := ⟨_, rfl⟩
  obtain ⟨q, hq⟩ : ∃ p : Int, p = (if b < d then (-1 : Int) else if d < b then 1 else 0) := ⟨_, rfl⟩
  rw [← hp, ← hq] at H1
  obtain ⟨r, hr⟩ : ∃ r : Int, r = if p = 0 then q else p := ⟨_, rfl⟩
  have C1 := fun W => cmpInt a c W
  have C2 := fun W => cmpInt b d W
  have C3 := fun g W h0 h1 => or2 p q g W h0 h1
  rw [← hp] at C1
  rw [← hq] at C2
  rw [← hr] at C3 H1
  clear hp hq hr
  rw [← H1]
  clear H1
  go_enter Try.func68, Try.ntmps68
  go_wp2_with fail
  refine wp_tail 10 (by kernel_rfl) (by kernel_rfl) ?_
  simp only [List.take_succ_cons, List.take_zero, List.drop_succ_cons, List.drop_zero]
  repeat (first | still_step | (refine wpStill_step (fun K hK => ?_); go_simp; with_reducible refine ⟨_, flip_w (C1 _), hK _ ?_⟩; clear hK K)  | (refine wpStill_step (fun K hK => ?_); go_simp; with_reducible refine ⟨_, flip_w (C2 _), hK _ ?_⟩; clear hK K))
  refine wpStill_nil ?_
  clear C1 C2
  go_wp2_with fail
  with_reducible refine (C3 _ _ ?_ ?_).mono ?_
  · simp [go_sem]
  · simp [go_sem]
  rintro e w' ⟨rfl, rfl⟩
  clear C3
  go_wp2_with fail
  go_ret
  exact ⟨rfl, by go_grown⟩

end Go.Proofs.Ytglhdoibglafbaa
