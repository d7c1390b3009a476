/- Peek, Pop at the queue that holds nothing. -/
import Derived.Test.YtglhdoibglafbaaQ7
namespace Go.Proofs.Ytglhdoibglafbaa
open Go Go.RowKit
set_option maxRecDepth 100000
set_option linter.unusedVariables false

theorem peekNil (q B : Nat) (v : Value) (w : World) (hq : QF w q B v []) :
    Calls Try.prog 23 #[.pointer (some ⟨q, 0, none⟩)] w fun e w' => e = .returned (.tuple #[.agg #[.int .i64 0, .int .i64 0], .int .i64 16]) ∧ Below w.heap.size w w' := by
  obtain ⟨es, h1, h2, h3, h4⟩ := hq
  obtain rfl := List.perm_nil.1 h3
  obtain ⟨A, c, rfl, hc, hr⟩ := own_reads0 h1.own
  have hcell := h1.cell
  have hql := h1.lt
  clear h1 h2 h3 h4 hr hc
  simp only [List.length_nil] at *
  go_enter Try.func23, Try.ntmps23
  go_wp2_with fail
  refine bodyPost_ret (v := .tuple #[.agg #[.int .i64 0, .int .i64 0], .int .i64 16]) (by simp [results, Try.results23, go_sem]) rfl ?_
  exact ⟨rfl, by (repeat (first | with_reducible exact Below.refl _ _ | with_reducible assumption | with_reducible refine below_drewN0 ?_ _ | with_reducible refine Below.drew ?_ | with_reducible refine Below.alloc ?_ ?_ _ | with_reducible refine Below.setCell ?_ ?_ _ | go_size | exact Below.size (by assumption)))⟩

set_option maxHeartbeats 2000000 in
theorem popNil (q B : Nat) (v : Value) (w : World) (hq : QF w q B v []) :
    Calls Try.prog 21 #[.pointer (some ⟨q, 0, none⟩)] w fun e w' => e = .returned (.tuple #[.agg #[.int .i64 0, .int .i64 0], .int .i64 16]) ∧ Below w.heap.size w w' := by
  have HPk := fun W hQ => peekNil q B v W hQ
  have HQ := Lib.hid hq
  have hql := hq.lt.1
  clear hq
  go_enter Try.func21, Try.ntmps21
  go_wp2_with (go_at_call 23; go_loud (refine (HPk _ (HQ.out.below ?_)).mono ?_; (repeat (first | with_reducible exact Below.refl _ _ | with_reducible assumption | with_reducible refine below_drewN0 ?_ _ | with_reducible refine Below.drew ?_ | with_reducible refine Below.alloc ?_ ?_ _ | with_reducible refine Below.setCell ?_ ?_ _ | go_size | exact Below.size (by assumption))); rintro e w1 ⟨rfl, hb1⟩; have hw1 : Below w.heap.size w w1 := Below.trans (by (repeat (first | with_reducible exact Below.refl _ _ | with_reducible assumption | with_reducible refine below_drewN0 ?_ _ | with_reducible refine Below.drew ?_ | with_reducible refine Below.alloc ?_ ?_ _ | with_reducible refine Below.setCell ?_ ?_ _ | go_size | exact Below.size (by assumption)))) (hb1.mono (by simp)); have HG := Lib.hid ((hb1.block w.heap.size (by simp)).trans (heap_alloc_new w _)); obtain ⟨a0, a1, a2, a3, a4⟩ := blk2 HG.out))
  have hs1 := hw1.size
  have hz := blk_put (cs := [Value.int IntKind.i64 0, Value.int IntKind.i64 0]) (blk_put (cs := [Value.int IntKind.i64 0, Value.int IntKind.i64 0]) HG.out 0 (.int .i64 0)) 1 (.int .i64 0)
  obtain ⟨c0, c1, _, _, _⟩ := blk2 (heap_old (o' := Obj.cells #[Value.int IntKind.i64 0, Value.int IntKind.i64 0] 39) hz)
  refine bodyPost_ret (v := .tuple #[.agg #[.int .i64 0, .int .i64 0], .int .i64 16]) (by simp [results, Try.results21, go_sem, c0, c1]) rfl ?_
  exact ⟨rfl, by (repeat (first | with_reducible exact Below.refl _ _ | with_reducible assumption | with_reducible refine below_drewN0 ?_ _ | with_reducible refine Below.drew ?_ | with_reducible refine Below.alloc ?_ ?_ _ | with_reducible refine Below.setCell ?_ ?_ _ | go_size | exact Below.size (by assumption)))⟩
end Go.Proofs.Ytglhdoibglafbaa
