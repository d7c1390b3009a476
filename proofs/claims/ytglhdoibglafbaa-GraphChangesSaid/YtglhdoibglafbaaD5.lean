/- Walks of the waking call of the graph laws. -/
import Derived.Test.YtglhdoibglafbaaD4
namespace Go.Proofs.Ytglhdoibglafbaa
open Go Go.RowKit
set_option maxRecDepth 100000
set_option linter.unusedVariables false

theorem below_sub {B : Nat} {a b : World} (h : Below b.heap.size b a) (hB : B ≤ b.heap.size) : Below B b a := h.mono hB

set_option maxHeartbeats 2000000 in
theorem awake02 (w : World) : Calls Try.prog 25 #[] w fun e w' => e = .returned (.bool true) ∧ Below w.heap.size w w' := by
  have HM := fun c W hR => make_1 3 2 0 (some ⟨w.heap.size, 0, none⟩) c W hR
  have HH := fun es A c W hR hc hm => has_any 3 0 2 es A c W hR hc hm
  have HB : hasB 3 [(0, 2)] 0 2 = true := by decide
  go_enter Try.func25, Try.ntmps25
  go_wp2_with (first
    | (go_at_call 27; refine (HM 1 _ ?_ (by omega) (by omega) (by omega) 0 2 rfl rfl (by omega) (by omega) (by omega)).mono ?_
       · exact reads_new w [_, _] _
       rintro e w1 ⟨v, rfl, ho, hb⟩
       obtain ⟨A, c, rfl, hl, hrd⟩ := own_reads0 ho
       obtain ⟨b0, o0, rfl, hbl, e1, e2⟩ := Reads.pair' (l := [(0, 2)]) hrd 0 (0, 2) rfl
       simp only [Nat.zero_mul, Nat.add_zero] at e1 e2
       have hbw : Below w.heap.size w w1 := Below.trans (by (repeat (first | with_reducible exact Below.refl _ _ | with_reducible assumption | with_reducible refine below_drewN0 ?_ _ | with_reducible refine Below.drew ?_ | with_reducible refine Below.alloc ?_ ?_ _ | with_reducible refine Below.setCell ?_ ?_ _ | go_size))) (hb.mono (by simp)))
    | (go_at_call 33; refine (HH [(0, 2)] _ _ _ (hrd.below ?_) hl (by decide)).mono ?_
       · (repeat (first | with_reducible exact Below.refl _ _ | with_reducible assumption | with_reducible refine below_drewN0 ?_ _ | with_reducible refine Below.drew ?_ | with_reducible refine Below.alloc ?_ ?_ _ | with_reducible refine Below.setCell ?_ ?_ _ | go_size))
       rw [HB]
       rintro e w2 ⟨rfl, hb2⟩))
  go_ret
  exact ⟨rfl, Below.trans (hbw.alloc hbw.size _) (hb2.mono (by have := hbw.size; simp; omega))⟩

theorem make_limit (n : Int) (A : Option Addr) (l c : Nat) (w : World) (hn : 4096 < n) :
    Calls Try.prog 27 #[.int .i64 n, .slice A l c] w fun e w' => e = .returned (.tuple #[.agg #[.int .i64 0, .slice none 0 0], .int .i64 8]) ∧ Below w.heap.size w w' := by
  go_enter Try.func27, Try.ntmps27
  go_wp2_with fail
  refine bodyPost_ret (v := .tuple #[.agg #[.int .i64 0, .slice none 0 0], .int .i64 8]) (by simp [results, Try.results27, go_sem]) rfl ?_
  exact ⟨rfl, by go_grown⟩

theorem add_vertex (n a b : Int) (es : List (Int × Int)) (A : Option Addr) (c : Nat) (w : World) (hr : Reads w A (pcells es)) (hc : es.length ≤ c) (hm : es.length ≤ 4611686018427387903) (hR : rightB n es = true) (hT : (decide (0 ≤ min a b) && decide (max a b < n)) = false) :
    Calls Try.prog 57 #[.agg #[.int .i64 n, .slice A es.length c], .int .i64 a, .int .i64 b] w fun e w' => e = .returned (.tuple #[.agg #[.int .i64 0, .slice none 0 0], .int .i64 4]) ∧ Below w.heap.size w w' := by
  have HRt := fun W hr => right_any n es A c W hr hc hm
  rw [hR] at HRt
  have HT := fun W => there_any n a b W
  rw [hT] at HT
  clear hT hR
  go_enter Try.func57, Try.ntmps57
  go_wp2_with (first
    | (go_at_call 31; refine (HRt _ (hr.below ?_)).mono ?_
       · (repeat (first | with_reducible exact Below.refl _ _ | with_reducible assumption | with_reducible refine below_drewN0 ?_ _ | with_reducible refine Below.drew ?_ | with_reducible refine Below.alloc ?_ ?_ _ | with_reducible refine Below.setCell ?_ ?_ _ | go_size))
       rintro e w1 ⟨rfl, hb1⟩
       have hbw : Below w.heap.size w w1 := Below.trans (by (repeat (first | with_reducible exact Below.refl _ _ | with_reducible assumption | with_reducible refine below_drewN0 ?_ _ | with_reducible refine Below.drew ?_ | with_reducible refine Below.alloc ?_ ?_ _ | with_reducible refine Below.setCell ?_ ?_ _ | go_size))) (hb1.mono (by simp; omega))
       obtain ⟨a0, a1, a2, a3, a4⟩ := blk2 ((hb1.block w.heap.size (by simp; omega)).trans (heap_old (heap_alloc_new _ _)))
       obtain ⟨b0, b1, b2, b3, b4⟩ := blk2 ((hb1.block (w.heap.size + 1) (by simp)).trans (by have h := heap_alloc_new (w.alloc (Obj.cells #[Value.int IntKind.i64 n, Value.slice A es.length c] 25)) (Obj.cells #[Value.int IntKind.i64 0, Value.slice none 0 0] 25); rw [World.size_alloc] at h; exact h)))
    | (go_at_call 66; refine (HT _).mono ?_; rintro e w2 ⟨rfl, rfl⟩))
  refine bodyPost_ret (v := .tuple #[.agg #[.int .i64 0, .slice none 0 0], .int .i64 4]) (by simp [results, Try.results57, go_sem, b0, b1]) rfl ?_
  exact ⟨rfl, by (repeat (first | with_reducible exact Below.refl _ _ | with_reducible assumption | with_reducible refine below_drewN0 ?_ _ | with_reducible refine Below.drew ?_ | with_reducible refine Below.alloc ?_ ?_ _ | with_reducible refine Below.setCell ?_ ?_ _ | go_size))⟩

theorem eqf_nil (fv : Value) (w : World) : Calls Try.prog 79 #[.slice none 0 0, .slice none 0 0, fv] w fun e w' => e = .returned (.bool true) ∧ w = w' := by
  go_enter Try.func79, Try.ntmps79
  go_wp2_with fail
  go_rounds 1
  go_ret
  simp

theorem edges_nil (w : World) : Calls Try.prog 51 #[.slice none 0 0, .slice none 0 0] w fun e w' => e = .returned (.bool true) ∧ w = w' := by
  go_enter Try.func51, Try.ntmps51
  go_wp2_with (go_at_call 79; refine (eqf_nil _ _).mono ?_; rintro e w1 ⟨rfl, rfl⟩)
  go_ret
  simp

theorem graph_nil (w : World) : Calls Try.prog 29 #[.agg #[.int .i64 0, .slice none 0 0], .agg #[.int .i64 0, .slice none 0 0]] w fun e w' => e = .returned (.bool true) ∧ Below w.heap.size w w' := by
  go_enter Try.func29, Try.ntmps29
  go_wp2_with (go_at_call 51; refine (edges_nil _).mono ?_; rintro e w1 ⟨rfl, rfl⟩)
  go_ret
  exact ⟨rfl, by (repeat (first | with_reducible exact Below.refl _ _ | with_reducible assumption | with_reducible refine below_drewN0 ?_ _ | with_reducible refine Below.drew ?_ | with_reducible refine Below.alloc ?_ ?_ _ | with_reducible refine Below.setCell ?_ ?_ _ | go_size))⟩

end Go.Proofs.Ytglhdoibglafbaa
