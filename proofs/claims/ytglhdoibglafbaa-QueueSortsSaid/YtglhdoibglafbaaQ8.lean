/- The waking call of the queue's laws. -/
import Derived.Test.YtglhdoibglafbaaQ7
namespace Go.Proofs.Ytglhdoibglafbaa
open Go Go.RowKit
set_option maxRecDepth 100000
set_option linter.unusedVariables false

set_option maxHeartbeats 2000000 in
theorem awake07 (w : World) : Calls Try.prog 18 #[] w fun e w' => e = .returned (.bool true) ∧ Below w.heap.size w w' := by
  have hN := newF w
  have hp1 : putE [] ((5 : Int), (1 : Int)) = [(5, 1)] := by decide
  have hp2 : putE [((5 : Int), (1 : Int))] (3, 9) = [(3, 9), (5, 1)] := by decide
  have H1 := fun v W hq hB => pushF w.heap.size (w.heap.size + 1) v [] 5 1 W hq hB (by decide)
  have H2 := fun v W hq hB => pushF w.heap.size (w.heap.size + 1) v [(5, 1)] 3 9 W hq hB (by decide)
  have H3 := fun v W hq => popF w.heap.size (w.heap.size + 1) v (3, 9) [(5, 1)] W hq (by decide)
  have H4 := fun v W hq => lenF w.heap.size (w.heap.size + 1) v [(5, 1)] W hq
  rw [hp1] at H1
  rw [hp2] at H2
  clear hp1 hp2
  go_enter Try.func18, Try.ntmps18
  go_wp2_with (first
    | (go_at_call 17; go_loud (refine hN.mono ?_; rintro e w1 ⟨rfl, hq1, hb1, hs1⟩; clear hN; have HS1 := Lib.hid hs1; clear hs1))
    | (go_at_call 19; go_loud ((with_reducible refine (H1 _ _ hq1 (by have := HS1.out; omega)).mono ?_); rintro e w2 ⟨rfl, v2, hq2, ht2, hs2⟩; clear H1))
    | (go_at_call 19; go_loud ((with_reducible refine (H2 _ _ hq2 (by have := HS1.out; have := ht2.size; omega)).mono ?_); rintro e w3 ⟨rfl, v3, hq3, ht3, hs3⟩; clear H2))
    | (go_at_call 21; go_loud (refine (H3 _ _ hq3).mono ?_; rintro e w4 ⟨rfl, v4, hq4, ht4, hv4⟩))
    | (go_at_call 24; go_loud (refine (H4 v4 _ (hq4.below ?_)).mono ?_; (repeat (first | with_reducible exact Below.refl _ _ | with_reducible assumption | with_reducible refine below_drewN0 ?_ _ | with_reducible refine Below.drew ?_ | with_reducible refine Below.alloc ?_ ?_ _ | with_reducible refine Below.setCell ?_ ?_ _ | go_size | exact Below.size (by assumption))); rintro e w5 ⟨rfl, rfl⟩)))
  go_ret
  have b2 := ht2.toBelow (B0 := w.heap.size) (Nat.le_refl _) (fun g hg => by have := hq1.lt.2.2 g hg; omega) (by have := HS1.out; omega)
  have b3 := ht3.toBelow (B0 := w.heap.size) (Nat.le_refl _) (fun g hg => by have := hq2.lt.2.2 g hg; omega) (by have := hq2.lt.1; omega)
  have b4 := ht4.toBelow (B0 := w.heap.size) (Nat.le_refl _) (fun g hg => by have := hq3.lt.2.2 g hg; omega) (by have := hq3.lt.1; omega)
  refine ⟨rfl, ?_⟩
  have hb := hb1.trans (b2.trans (b3.trans b4))
  exact hb.alloc (by have := hq4.lt.1; omega) _
end Go.Proofs.Ytglhdoibglafbaa
