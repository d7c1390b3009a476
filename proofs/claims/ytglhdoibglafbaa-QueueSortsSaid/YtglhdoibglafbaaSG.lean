/- Queue's compare, as the sort of the shelf wants it: what it does to the world is blocks of its own. -/
import Derived.Test.YtglhdoibglafbaaQ1
import Derived.Sort.Grow
namespace Go.Proofs.Ytglhdoibglafbaa
open Go Go.RowKit
set_option maxRecDepth 100000
set_option linter.unusedVariables false

/-- Draws, and blocks behind. -/
def GF (w w' : World) : Prop := ∃ q os', w' = Sort.grow (w.drewN q) os'
theorem GF.refl (w : World) : GF w w := ⟨0, #[], by simp [World.drewN]⟩
theorem GF.alloc {w w' : World} (h : GF w w') (o : Obj) : GF w (w'.alloc o) := by
  obtain ⟨q, os, rfl⟩ := h
  exact ⟨q, os ++ #[o], by rw [Sort.alloc_eq_grow, Sort.grow_grow]⟩
theorem GF.drewN {w w' : World} (h : GF w w') (n : Nat) : GF w (w'.drewN n) := by
  obtain ⟨q, os, rfl⟩ := h
  exact ⟨q + n, os, by simp [World.drewN, Sort.grow, Nat.add_assoc]⟩
theorem GF.drew {w w' : World} (h : GF w w') : GF w w'.drew := h.drewN 1
theorem GF.setCell {w w' : World} (h : GF w w') {p : Addr} (hp : w.heap.size ≤ p.block) (u : Value) : GF w (w'.setCell p u) := by
  obtain ⟨q, os, rfl⟩ := h
  refine ⟨q, ?_⟩
  unfold World.setCell Sort.grow
  simp only
  rw [Sort.modify_append_right _ _ _ _ (by exact hp)]
  exact ⟨_, rfl⟩
theorem GF.size {w w' : World} (h : GF w w') : w.heap.size ≤ w'.heap.size := by
  obtain ⟨q, os, rfl⟩ := h
  simp [Sort.grow, World.drewN]

set_option maxHeartbeats 2000000 in
theorem compareG (a b c d : Int) (w : World) :
    Calls Try.prog 85 #[.agg #[.int .i64 a, .int .i64 b], .agg #[.int .i64 c, .int .i64 d]] w fun e w' => e = .returned (.int .i64 (cmpE a b c d)) ∧ GF w w' := by
  have H1 := cmpE_eq a b c d
  obtain ⟨p, hp⟩ : ∃ p : Int, p = (if a < c then (-1 : Int) else if c < a then 1 else 0) := ⟨_, rfl⟩
  obtain ⟨q, hq⟩ : ∃ p : Int, p = (if b < d then (-1 : Int) else if d < b then 1 else 0) := ⟨_, rfl⟩
  rw [← hp, ← hq] at H1
  obtain ⟨r, hr⟩ : ∃ r : Int, r = if p = 0 then q else p := ⟨_, rfl⟩
  have C1 := fun W => cmpInt a c W
  have C2 := fun W => cmpInt b d W
  have C3 := fun g W h0 h1 => or2 p q g W h0 h1
  rw [← hp] at C1
  rw [← hq] at C2
  rw [← hr] at C3 H1
  clear hp hq hr
  rw [← H1]
  clear H1
  go_enter Try.func85, Try.ntmps85
  go_wp2_with fail
  refine wp_tail 10 (by kernel_rfl) (by kernel_rfl) ?_
  simp only [List.take_succ_cons, List.take_zero, List.drop_succ_cons, List.drop_zero]
  repeat (first | still_step | (refine wpStill_step (fun K hK => ?_); go_simp; with_reducible refine ⟨_, flip_w (C1 _), hK _ ?_⟩; clear hK K)  | (refine wpStill_step (fun K hK => ?_); go_simp; with_reducible refine ⟨_, flip_w (C2 _), hK _ ?_⟩; clear hK K))
  refine wpStill_nil ?_
  clear C1 C2
  go_wp2_with fail
  with_reducible refine (C3 _ _ ?_ ?_).mono ?_
  · simp [go_sem]
  · simp [go_sem]
  rintro e w' ⟨rfl, rfl⟩
  clear C3
  go_wp2_with fail
  go_ret
  exact ⟨rfl, by (repeat (first | exact GF.refl _ | refine GF.drewN ?_ _ | refine GF.drew ?_ | refine GF.alloc ?_ _ | refine GF.setCell ?_ ?_ _ | go_size | (simp; done) | (simp; omega)))⟩



end Go.Proofs.Ytglhdoibglafbaa
