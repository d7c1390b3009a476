/- Walks of graph.Near, graph.Degree. -/
import Derived.Test.YtglhdoibglafbaaD9
import Derived.Test.YtglhdoibglafbaaD7
namespace Go.Proofs.Ytglhdoibglafbaa
open Go Go.RowKit
set_option maxRecDepth 100000
set_option linter.unusedVariables false

/-- A row of numbers, told. -/
def RowPost (l : List Int) (w : World) (e : Ending) (w' : World) : Prop :=
  ∃ (A : Option Addr) (c : Nat), e = .returned (.slice A l.length c) ∧ l.length ≤ c ∧ Reads w' A (icells l) ∧ Below w.heap.size w w'

theorem near_out (n v : Int) (es : List (Int × Int)) (A : Option Addr) (c : Nat) (w : World) (hr : Reads w A (pcells es)) (hc : es.length ≤ c) (hm : es.length ≤ 4611686018427387903) (hR : rightB n es = true) (hv : v < 0 ∨ n ≤ v) :
    Calls Try.prog 38 #[.agg #[.int .i64 n, .slice A es.length c], .int .i64 v] w fun e w' => e = .returned (.slice none 0 0) ∧ Below w.heap.size w w' := by
  have HRt := fun W hr => right_any n es A c W hr hc hm
  rw [hR] at HRt
  clear hR
  by_cases hv0 : v < 0
  · clear hv
    go_enter Try.func38, Try.ntmps38
    go_wp2_with (first
      | (go_at_call 31; refine (HRt _ (hr.below ?_)).mono ?_
         · (repeat (first | with_reducible exact Below.refl _ _ | with_reducible assumption | with_reducible refine below_drewN0 ?_ _ | with_reducible refine Below.drew ?_ | with_reducible refine Below.alloc ?_ ?_ _ | with_reducible refine Below.setCell ?_ ?_ _ | go_size))
         rintro e w1 ⟨rfl, hb1⟩
         have hbw : Below w.heap.size w w1 := Below.trans (by (repeat (first | with_reducible exact Below.refl _ _ | with_reducible assumption | with_reducible refine below_drewN0 ?_ _ | with_reducible refine Below.drew ?_ | with_reducible refine Below.alloc ?_ ?_ _ | with_reducible refine Below.setCell ?_ ?_ _ | go_size))) (hb1.mono (by simp))
         obtain ⟨a0, a1, a2, a3, a4⟩ := blk2 ((hb1.block w.heap.size (by simp)).trans (heap_alloc_new _ _))))
    go_ret
    exact ⟨rfl, by (repeat (first | with_reducible exact Below.refl _ _ | with_reducible assumption | with_reducible refine below_drewN0 ?_ _ | with_reducible refine Below.drew ?_ | with_reducible refine Below.alloc ?_ ?_ _ | with_reducible refine Below.setCell ?_ ?_ _ | go_size))⟩
  · have hv1 : n ≤ v := by omega
    clear hv
    go_enter Try.func38, Try.ntmps38
    go_wp2_with (first
      | (go_at_call 31; refine (HRt _ (hr.below ?_)).mono ?_
         · (repeat (first | with_reducible exact Below.refl _ _ | with_reducible assumption | with_reducible refine below_drewN0 ?_ _ | with_reducible refine Below.drew ?_ | with_reducible refine Below.alloc ?_ ?_ _ | with_reducible refine Below.setCell ?_ ?_ _ | go_size))
         rintro e w1 ⟨rfl, hb1⟩
         have hbw : Below w.heap.size w w1 := Below.trans (by (repeat (first | with_reducible exact Below.refl _ _ | with_reducible assumption | with_reducible refine below_drewN0 ?_ _ | with_reducible refine Below.drew ?_ | with_reducible refine Below.alloc ?_ ?_ _ | with_reducible refine Below.setCell ?_ ?_ _ | go_size))) (hb1.mono (by simp))
         obtain ⟨a0, a1, a2, a3, a4⟩ := blk2 ((hb1.block w.heap.size (by simp)).trans (heap_alloc_new _ _))))
    go_ret
    exact ⟨rfl, by (repeat (first | with_reducible exact Below.refl _ _ | with_reducible assumption | with_reducible refine below_drewN0 ?_ _ | with_reducible refine Below.drew ?_ | with_reducible refine Below.alloc ?_ ?_ _ | with_reducible refine Below.setCell ?_ ?_ _ | go_size))⟩

theorem near_in (n v : Nat) (es : List (Int × Int)) (A : Option Addr) (c : Nat) (w : World) (hr : Reads w A (pcells es)) (hc : es.length ≤ c) (hm : es.length ≤ 4611686018427387903) (hR : rightB n es = true) (hv : v < n) :
    Calls Try.prog 38 #[.agg #[.int .i64 (n : Int), .slice A es.length c], .int .i64 (v : Int)] w (RowPost (nearL es v) w) := by
  have HRt := fun W hr => right_any n es A c W hr hc hm
  have hP := (right_iff _ _).1 hR
  rw [hR] at HRt
  have hP0 := hP.n1
  have hP1 := hP.len
  have HL := fun W hr => lists_any n es A c W hr hc (by omega) (by omega) (fun e he => by have := hP.ok e he; omega)
  have hv0 : ¬ ((v : Int) < 0) := by omega
  have hv1 : ¬ ((n : Int) ≤ (v : Int)) := by omega
  have hv2 : (v : Int) < (n : Int) := by omega
  clear hR hP hP0 hP1
  go_enter Try.func38, Try.ntmps38
  go_wp2_with (first
    | (go_at_call 31; refine (HRt _ (hr.below ?_)).mono ?_
       · (repeat (first | with_reducible exact Below.refl _ _ | with_reducible assumption | with_reducible refine below_drewN0 ?_ _ | with_reducible refine Below.drew ?_ | with_reducible refine Below.alloc ?_ ?_ _ | with_reducible refine Below.setCell ?_ ?_ _ | go_size))
       rintro e w1 ⟨rfl, hb1⟩
       have hbw : Below w.heap.size w w1 := Below.trans (by (repeat (first | with_reducible exact Below.refl _ _ | with_reducible assumption | with_reducible refine below_drewN0 ?_ _ | with_reducible refine Below.drew ?_ | with_reducible refine Below.alloc ?_ ?_ _ | with_reducible refine Below.setCell ?_ ?_ _ | go_size))) (hb1.mono (by simp))
       obtain ⟨a0, a1, a2, a3, a4⟩ := blk2 ((hb1.block w.heap.size (by simp)).trans (heap_alloc_new _ _)))
    | (go_at_call 74; refine (HL _ (hr.below ?_)).mono ?_
       · (repeat (first | with_reducible exact Below.refl _ _ | with_reducible assumption | with_reducible refine below_drewN0 ?_ _ | with_reducible refine Below.drew ?_ | with_reducible refine Below.alloc ?_ ?_ _ | with_reducible refine Below.setCell ?_ ?_ _ | go_size))
       rintro e w2 ⟨B, vs, rfl, hB, hRow, hb2⟩
       obtain ⟨u, A2, c2, hu, rfl, hc2, hrd, ho, hcell⟩ := hRow.get v _ (rowsF_get _ _ _ hv)))
  go_ret
  exact ⟨A2, c2, rfl, hc2, hrd, hbw.trans (hb2.mono hbw.size)⟩

theorem near_any (n v : Int) (es : List (Int × Int)) (A : Option Addr) (c : Nat) (w : World) (hr : Reads w A (pcells es)) (hc : es.length ≤ c) (hm : es.length ≤ 4611686018427387903) :
    Calls Try.prog 38 #[.agg #[.int .i64 n, .slice A es.length c], .int .i64 v] w (RowPost (nearB n es v) w) := by
  have hnil : Calls Try.prog 38 #[.agg #[.int .i64 n, .slice A es.length c], .int .i64 v] w (fun e w' => e = .returned (.slice none 0 0) ∧ Below w.heap.size w w') → nearB n es v = [] →
      Calls Try.prog 38 #[.agg #[.int .i64 n, .slice A es.length c], .int .i64 v] w (RowPost (nearB n es v) w) := fun h he => h.mono fun e w' ⟨h1, h2⟩ => by
    rw [he]; exact ⟨none, 0, h1, Nat.le_refl _, .inl rfl, h2⟩
  cases hR : rightB n es with
  | false => exact hnil (near_bad n v es A c w hr hc hm hR) (by unfold nearB; rw [if_neg (by simp [hR])])
  | true =>
    by_cases hv : 0 ≤ v ∧ v < n
    · obtain ⟨vn, rfl⟩ : ∃ m : Nat, v = m := ⟨v.toNat, by omega⟩
      obtain ⟨nn, rfl⟩ : ∃ m : Nat, n = m := ⟨n.toNat, by omega⟩
      have := near_in nn vn es A c w hr hc hm hR (by omega)
      rwa [nearB_right hR]
    · exact hnil (near_out n v es A c w hr hc hm hR (by omega)) (by unfold nearB; rw [if_neg (fun h => hv h.2)])

theorem degree_any (n v : Int) (es : List (Int × Int)) (A : Option Addr) (c : Nat) (w : World) (hr : Reads w A (pcells es)) (hc : es.length ≤ c) (hm : es.length ≤ 4611686018427387903) :
    Calls Try.prog 40 #[.agg #[.int .i64 n, .slice A es.length c], .int .i64 v] w fun e w' => e = .returned (.int .i64 ((nearB n es v).length : Int)) ∧ Below w.heap.size w w' := by
  have HN := fun W hr => near_any n v es A c W hr hc hm
  generalize nearB n es v = l at *
  go_enter Try.func40, Try.ntmps40
  go_wp2_with (go_at_call 38; refine (HN _ (hr.below ?_)).mono ?_; (repeat (first | with_reducible exact Below.refl _ _ | with_reducible assumption | with_reducible refine below_drewN0 ?_ _ | with_reducible refine Below.drew ?_ | with_reducible refine Below.alloc ?_ ?_ _ | with_reducible refine Below.setCell ?_ ?_ _ | go_size)); rintro e w1 ⟨A1, c1, rfl, hc1, hrd, hb1⟩)
  go_ret
  exact ⟨rfl, Below.trans (by (repeat (first | with_reducible exact Below.refl _ _ | with_reducible assumption | with_reducible refine below_drewN0 ?_ _ | with_reducible refine Below.drew ?_ | with_reducible refine Below.alloc ?_ ?_ _ | with_reducible refine Below.setCell ?_ ?_ _ | go_size))) (hb1.mono (by simp))⟩

end Go.Proofs.Ytglhdoibglafbaa
