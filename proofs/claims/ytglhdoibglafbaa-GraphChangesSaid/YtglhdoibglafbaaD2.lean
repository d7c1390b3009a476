/- Walks of graph's place, Index, Has. -/
import Derived.Test.YtglhdoibglafbaaD1
import Derived.Test.YtglhdoibglafbaaG2
namespace Go.Proofs.Ytglhdoibglafbaa
open Go Go.RowKit
set_option maxRecDepth 100000
set_option linter.unusedVariables false

set_option maxHeartbeats 2000000 in
theorem place_any (n a b : Int) (es : List (Int × Int)) (A : Option Addr) (c : Nat) (w : World) (hr : Reads w A (pcells es)) (hc : es.length ≤ c) (hm : es.length ≤ 4611686018427387903) (x y : Int) (hx : min a b = x) (hy : max a b = y) (p : Nat) (hp : p ≤ es.length)
    (h1 : ∀ j e, j < p → es[j]? = some e → cmpE e.1 e.2 x y < 0) (h2 : ∀ j e, p ≤ j → es[j]? = some e → 0 ≤ cmpE e.1 e.2 x y)
    (fnd : Bool) (h3 : es[p]? = none → fnd = false) (h4 : ∀ e, es[p]? = some e → fnd = decide (cmpE e.1 e.2 x y = 0)) :
    Calls Try.prog 70 #[.agg #[.int .i64 n, .slice A es.length c], .int .i64 a, .int .i64 b] w fun e w' => e = .returned (.tuple #[.int .i64 p, .bool fnd]) ∧ Below w.heap.size w w' := by
  have HB := fun W hR => bs_any es A c W hR hc hm x y p hp h1 h2 fnd h3 h4
  have HE := fun W => edge_any a b W
  rw [hx, hy] at HE
  clear h1 h2 h3 h4 hx hy
  go_enter Try.func70, Try.ntmps70
  go_wp2_with fail
  obtain ⟨V, hV⟩ : ∃ V, V = w.alloc (Obj.cells #[Value.int IntKind.i64 n, Value.slice A es.length c] 25) := ⟨_, rfl⟩
  rw [← hV]
  have hcV : V.cell? ⟨w.heap.size, 1, none⟩ = some (.slice A es.length c) := by rw [hV]; simp [go_sem]
  have hbV : Below w.heap.size w V := by rw [hV]; exact Below.alloc (Below.refl _ _) (Nat.le_refl _) _
  have hsV : w.heap.size < V.heap.size := by rw [hV]; simp
  have hrV := hr.below hbV
  clear hV hr
  have HS := Lib.hid (fun (w' : World) (h : Below V.heap.size V w') => ((h.cell (p := ⟨w.heap.size, 1, none⟩) hsV).trans hcV : w'.cell? ⟨w.heap.size, 1, none⟩ = some (.slice A es.length c)))
  go_region_held3 (fun w' => w'.cell? ⟨w.heap.size, 1, none⟩ = some (.slice A es.length c)) (first | exact HS.out _ (Below.refl _ _) | exact HS.out _ hbw | exact HS.out _ hbx | (refine HS.out _ ?_; (repeat (first | with_reducible exact Below.refl _ _ | with_reducible assumption | with_reducible refine below_drewN0 ?_ _ | with_reducible refine Below.drew ?_ | with_reducible refine Below.alloc ?_ ?_ _ | with_reducible refine Below.setCell ?_ ?_ _ | go_size)); done)) (first | (go_at_call 65; refine (HE _).mono ?_; rintro e w1 ⟨rfl, hb1⟩; have hbw : Below V.heap.size V w1 := Below.trans (by (repeat (first | with_reducible exact Below.refl _ _ | with_reducible assumption | with_reducible refine below_drewN0 ?_ _ | with_reducible refine Below.drew ?_ | with_reducible refine Below.alloc ?_ ?_ _ | with_reducible refine Below.setCell ?_ ?_ _ | go_size))) (hb1.mono (by simp))) | (go_at_call 98; refine (HB _ ?_).mono ?_; (refine hrV.below ?_; (repeat (first | with_reducible exact Below.refl _ _ | with_reducible assumption | with_reducible refine below_drewN0 ?_ _ | with_reducible refine Below.drew ?_ | with_reducible refine Below.alloc ?_ ?_ _ | with_reducible refine Below.setCell ?_ ?_ _ | go_size))); rintro e w2 ⟨rfl, hb2⟩; have hbx : Below V.heap.size V w2 := Below.trans (by (repeat (first | with_reducible exact Below.refl _ _ | with_reducible assumption | with_reducible refine below_drewN0 ?_ _ | with_reducible refine Below.drew ?_ | with_reducible refine Below.alloc ?_ ?_ _ | with_reducible refine Below.setCell ?_ ?_ _ | go_size))) (hb2.mono (by have := hbw.size; simp; omega))))
  all_goals
    go_wp2_with fail
    go_ret2
    exact ⟨rfl, hbV.trans (hbx.mono (by omega))⟩

set_option maxHeartbeats 2000000 in
theorem index_any (n a b : Int) (es : List (Int × Int)) (A : Option Addr) (c : Nat) (w : World) (hr : Reads w A (pcells es)) (hc : es.length ≤ c) (hm : es.length ≤ 4611686018427387903) :
    Calls Try.prog 35 #[.agg #[.int .i64 n, .slice A es.length c], .int .i64 a, .int .i64 b] w fun e w' => e = .returned (.int .i64 (indexB n es a b)) ∧ Below w.heap.size w w' := by
  have HRt := fun W hR => right_any n es A c W hR hc hm
  unfold indexB
  generalize hrb : rightB n es = rb at HRt ⊢
  cases rb with
  | false =>
    rw [if_neg (by simp)]
    go_enter Try.func35, Try.ntmps35
    go_wp2_with (go_at_call 31; refine (HRt _ ?_).mono ?_; exact hr.below (by (repeat (first | with_reducible exact Below.refl _ _ | with_reducible assumption | with_reducible refine below_drewN0 ?_ _ | with_reducible refine Below.drew ?_ | with_reducible refine Below.alloc ?_ ?_ _ | with_reducible refine Below.setCell ?_ ?_ _ | go_size))); rintro e w1 ⟨rfl, hb1⟩)
    go_ret
    exact ⟨rfl, Below.trans (by (repeat (first | with_reducible exact Below.refl _ _ | with_reducible assumption | with_reducible refine below_drewN0 ?_ _ | with_reducible refine Below.drew ?_ | with_reducible refine Below.alloc ?_ ?_ _ | with_reducible refine Below.setCell ?_ ?_ _ | go_size))) (hb1.mono (by simp))⟩
  | true =>
    rw [if_pos rfl]
    have hinc := ((right_iff n es).1 hrb).inc
    clear hrb
    obtain ⟨p, hp, k1, k2⟩ := lb_ex (min a b, max a b) es hinc
    obtain ⟨fnd, k3, k4⟩ : ∃ fnd : Bool, (es[p]? = none → fnd = false) ∧ (∀ d, es[p]? = some d → fnd = decide (cmpE d.1 d.2 (min a b) (max a b) = 0)) := by
      cases hpp : es[p]? with
      | none => exact ⟨false, fun _ => rfl, fun d h => by cases h⟩
      | some d => exact ⟨decide (cmpE d.1 d.2 (min a b) (max a b) = 0), fun h => (by cases h), fun d' h => (by cases h; rfl)⟩
    rw [lb_find (e := (min a b, max a b)) k1 k2 hinc fnd k3 k4]
    have HP := fun W hR => place_any n a b es A c W hR hc hm _ _ rfl rfl p hp (fun j e hj he => (cmpE_lt _ _ _ _).2 (k1 j e hj he)) (fun j e hj he => Int.not_lt.1 fun h => k2 j e hj he ((cmpE_lt _ _ _ _).1 h)) fnd k3 k4
    clear k1 k2 k3 k4 hinc hp
    cases fnd with
    | false =>
      rw [if_neg (by simp)]
      go_enter Try.func35, Try.ntmps35
      go_wp2_with (first | (go_at_call 31; refine (HRt _ ?_).mono ?_; exact hr.below (by (repeat (first | with_reducible exact Below.refl _ _ | with_reducible assumption | with_reducible refine below_drewN0 ?_ _ | with_reducible refine Below.drew ?_ | with_reducible refine Below.alloc ?_ ?_ _ | with_reducible refine Below.setCell ?_ ?_ _ | go_size))); rintro e w1 ⟨rfl, hb1⟩; have hbw : Below w.heap.size w w1 := Below.trans (by (repeat (first | with_reducible exact Below.refl _ _ | with_reducible assumption | with_reducible refine below_drewN0 ?_ _ | with_reducible refine Below.drew ?_ | with_reducible refine Below.alloc ?_ ?_ _ | with_reducible refine Below.setCell ?_ ?_ _ | go_size))) (hb1.mono (by simp)); obtain ⟨a0, a1, a2, a3, a4⟩ := blk2 ((hb1.block w.heap.size (by simp)).trans (heap_alloc_new _ _))) | (go_at_call 70; refine (HP _ (hr.below ?_)).mono ?_; (repeat (first | with_reducible exact Below.refl _ _ | with_reducible assumption | with_reducible refine below_drewN0 ?_ _ | with_reducible refine Below.drew ?_ | with_reducible refine Below.alloc ?_ ?_ _ | with_reducible refine Below.setCell ?_ ?_ _ | go_size)); rintro e w2 ⟨rfl, hb2⟩))
      go_ret
      exact ⟨rfl, hbw.trans (hb2.mono hbw.size)⟩
    | true =>
      rw [if_pos rfl]
      go_enter Try.func35, Try.ntmps35
      go_wp2_with (first | (go_at_call 31; refine (HRt _ ?_).mono ?_; exact hr.below (by (repeat (first | with_reducible exact Below.refl _ _ | with_reducible assumption | with_reducible refine below_drewN0 ?_ _ | with_reducible refine Below.drew ?_ | with_reducible refine Below.alloc ?_ ?_ _ | with_reducible refine Below.setCell ?_ ?_ _ | go_size))); rintro e w1 ⟨rfl, hb1⟩; have hbw : Below w.heap.size w w1 := Below.trans (by (repeat (first | with_reducible exact Below.refl _ _ | with_reducible assumption | with_reducible refine below_drewN0 ?_ _ | with_reducible refine Below.drew ?_ | with_reducible refine Below.alloc ?_ ?_ _ | with_reducible refine Below.setCell ?_ ?_ _ | go_size))) (hb1.mono (by simp)); obtain ⟨a0, a1, a2, a3, a4⟩ := blk2 ((hb1.block w.heap.size (by simp)).trans (heap_alloc_new _ _))) | (go_at_call 70; refine (HP _ (hr.below ?_)).mono ?_; (repeat (first | with_reducible exact Below.refl _ _ | with_reducible assumption | with_reducible refine below_drewN0 ?_ _ | with_reducible refine Below.drew ?_ | with_reducible refine Below.alloc ?_ ?_ _ | with_reducible refine Below.setCell ?_ ?_ _ | go_size)); rintro e w2 ⟨rfl, hb2⟩))
      go_ret
      exact ⟨rfl, hbw.trans (hb2.mono hbw.size)⟩

theorem has_any (n a b : Int) (es : List (Int × Int)) (A : Option Addr) (c : Nat) (w : World) (hr : Reads w A (pcells es)) (hc : es.length ≤ c) (hm : es.length ≤ 4611686018427387903) :
    Calls Try.prog 33 #[.agg #[.int .i64 n, .slice A es.length c], .int .i64 a, .int .i64 b] w fun e w' => e = .returned (.bool (hasB n es a b)) ∧ Below w.heap.size w w' := by
  have HI := fun W hR => index_any n a b es A c W hR hc hm
  unfold hasB
  generalize indexB n es a b = r at HI ⊢
  go_enter Try.func33, Try.ntmps33
  go_wp2_with (go_at_call 35; refine (HI _ (hr.below ?_)).mono ?_; (repeat (first | with_reducible exact Below.refl _ _ | with_reducible assumption | with_reducible refine below_drewN0 ?_ _ | with_reducible refine Below.drew ?_ | with_reducible refine Below.alloc ?_ ?_ _ | with_reducible refine Below.setCell ?_ ?_ _ | go_size)); rintro e w1 ⟨rfl, hb1⟩)
  go_ret
  exact ⟨rfl, Below.trans (by (repeat (first | with_reducible exact Below.refl _ _ | with_reducible assumption | with_reducible refine below_drewN0 ?_ _ | with_reducible refine Below.drew ?_ | with_reducible refine Below.alloc ?_ ?_ _ | with_reducible refine Below.setCell ?_ ?_ _ | go_size))) (hb1.mono (by simp))⟩

end Go.Proofs.Ytglhdoibglafbaa
