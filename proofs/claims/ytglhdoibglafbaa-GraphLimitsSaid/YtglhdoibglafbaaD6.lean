/- The walk of the law GraphLimits. -/
import Derived.Test.YtglhdoibglafbaaD5
namespace Go.Proofs.Ytglhdoibglafbaa
open Go Go.RowKit
set_option maxRecDepth 100000
set_option linter.unusedVariables false

set_option maxHeartbeats 2000000 in
theorem limits_any (m : Bool) (w : World) : Calls Try.prog 11 #[.bool m] w fun e w' => e = .returned (.bool true) ∧ Below w.heap.size w w' := by
  cases m with
  | true =>
    have HM := fun A l c W => make_limit 4097 A l c W (by omega)
    have HA := fun W => awake02 W
    have HG := fun W => graph_nil W
    have HR := fun W => right_any 4097 [] none 0 W (.inl rfl) (by decide) (by decide)
    rw [show rightB 4097 [] = false from by decide] at HR
    go_enter Try.func11, Try.ntmps11
    go_wp2_with (first
      | (go_at_call 27; refine (HM _ _ _ _).mono ?_; rintro e w1 ⟨rfl, hb1⟩
         have hbw : Below w.heap.size w w1 := Below.trans (by (repeat (first | with_reducible exact Below.refl _ _ | with_reducible assumption | with_reducible refine below_drewN0 ?_ _ | with_reducible refine Below.drew ?_ | with_reducible refine Below.alloc ?_ ?_ _ | with_reducible refine Below.setCell ?_ ?_ _ | go_size))) (hb1.mono (by simp)))
      | (go_at_call 25; refine (HA _).mono ?_; rintro e w2 ⟨rfl, hb2⟩
         obtain ⟨a0, a1, a2, a3, a4⟩ := blk2 ((hb2.block w1.heap.size (by simp)).trans (heap_alloc_new _ _)))
      | (go_at_call 29; refine (HG _).mono ?_; rintro e w3 ⟨rfl, hb3⟩)
      | (go_at_call 31; refine (HR _).mono ?_; rintro e w4 ⟨rfl, hb4⟩))
    go_ret
    have s1 := hbw.size
    have s2 := hb2.size
    have s3 := hb3.size
    rw [World.size_alloc] at s2
    exact ⟨rfl, (hbw.alloc s1 _).trans ((hb2.mono (by simp; omega)).trans ((hb3.mono (by omega)).trans (hb4.mono (by omega))))⟩
  | false =>
    have HM := fun A c W hR => make_1 4096 4095 0 A c W hR
    have HA := fun W => awake02 W
    have HH := fun A c W hR hc => has_any 4096 0 4095 [(0, 4095)] A c W hR hc (by decide)
    rw [show hasB 4096 [(0, 4095)] 0 4095 = true from by decide] at HH
    have HV := fun A c W hR hc => add_vertex 4096 0 4096 [(0, 4095)] A c W hR hc (by decide) (by decide) (by decide)
    go_enter Try.func11, Try.ntmps11
    go_wp2_with (first
      | (go_at_call 27; refine (HM _ 1 _ ?_ (by omega) (by omega) (by omega) 0 4095 rfl rfl (by omega) (by omega) (by omega)).mono ?_
         · exact reads_new w [_, _] _
         rintro e w1 ⟨v, rfl, ho, hb⟩
         obtain ⟨A, c, rfl, hl, hrd⟩ := own_reads0 ho
         have hbw : Below w.heap.size w w1 := Below.trans (by (repeat (first | with_reducible exact Below.refl _ _ | with_reducible assumption | with_reducible refine below_drewN0 ?_ _ | with_reducible refine Below.drew ?_ | with_reducible refine Below.alloc ?_ ?_ _ | with_reducible refine Below.setCell ?_ ?_ _ | go_size))) (hb.mono (by simp)))
      | (go_at_call 57; refine (HV _ _ _ (hrd.below ?_) hl).mono ?_
         · (repeat (first | with_reducible exact Below.refl _ _ | with_reducible assumption | with_reducible refine below_drewN0 ?_ _ | with_reducible refine Below.drew ?_ | with_reducible refine Below.alloc ?_ ?_ _ | with_reducible refine Below.setCell ?_ ?_ _ | go_size))
         rintro e w2 ⟨rfl, hb2⟩
         have hA2 := Lib.hid ((hb2.block w1.heap.size (by simp)).trans (heap_alloc_new _ _))
         obtain ⟨a0, a1, a2, a3, a4⟩ := blk2 hA2.out
         have hbx : Below w1.heap.size w1 w2 := Below.trans (by (repeat (first | with_reducible exact Below.refl _ _ | with_reducible assumption | with_reducible refine below_drewN0 ?_ _ | with_reducible refine Below.drew ?_ | with_reducible refine Below.alloc ?_ ?_ _ | with_reducible refine Below.setCell ?_ ?_ _ | go_size))) (hb2.mono (by simp)))
      | (go_at_call 25; refine (HA _).mono ?_; rintro e w3 ⟨rfl, hb3⟩
         have hby : Below w1.heap.size w1 w3 := hbx.trans (Below.trans (by (repeat (first | with_reducible exact Below.refl _ _ | with_reducible assumption | with_reducible refine below_drewN0 ?_ _ | with_reducible refine Below.drew ?_ | with_reducible refine Below.alloc ?_ ?_ _ | with_reducible refine Below.setCell ?_ ?_ _ | go_size))) (hb3.mono (by have := hbx.size; simp; omega)))
         obtain ⟨c0, c1, c2, c3, c4⟩ := blk2 ((hb3.block w1.heap.size (by simp; omega)).trans (heap_old hA2.out)))
      | (go_at_call 33; refine (HH _ _ _ (hrd.below ?_) hl).mono ?_
         · (repeat (first | with_reducible exact Below.refl _ _ | with_reducible assumption | with_reducible refine below_drewN0 ?_ _ | with_reducible refine Below.drew ?_ | with_reducible refine Below.alloc ?_ ?_ _ | with_reducible refine Below.setCell ?_ ?_ _ | go_size))
         rintro e w4 ⟨rfl, hb4⟩))
    go_ret
    have s1 := hbw.size
    have s2 := hby.size
    exact ⟨rfl, hbw.trans ((hby.mono (by omega)).trans (hb4.mono (by omega)))⟩

end Go.Proofs.Ytglhdoibglafbaa
