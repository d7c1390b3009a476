/- Walks of the queue's methods. -/
import Derived.Test.YtglhdoibglafbaaQ4
namespace Go.Proofs.Ytglhdoibglafbaa
open Go Go.RowKit
set_option maxRecDepth 100000
set_option linter.unusedVariables false

theorem qNew (w : World) : Calls Try.prog 17 #[] w fun e w' => e = .returned (.pointer (some ⟨w.heap.size, 0, none⟩)) ∧ QAt w' w.heap.size (w.heap.size + 1) (.slice none 0 0) [] ∧ Below w.heap.size w w' ∧ w'.heap.size = w.heap.size + 1 := by
  go_enter Try.func17, Try.ntmps17
  go_wp2
  go_ret
  exact ⟨rfl, ⟨heap_alloc_new w _, own_nil0 _ _ _ _, by omega⟩, by (repeat (first | with_reducible exact Below.refl _ _ | with_reducible assumption | with_reducible refine below_drewN0 ?_ _ | with_reducible refine Below.drew ?_ | with_reducible refine Below.alloc ?_ ?_ _ | with_reducible refine Below.setCell ?_ ?_ _ | go_size | exact Below.size (by assumption))), by simp⟩

theorem qLen (q B : Nat) (v : Value) (es : List PE) (w : World) (hq : QAt w q B v es) : Calls Try.prog 24 #[.pointer (some ⟨q, 0, none⟩)] w fun e w' => e = .returned (.int .i64 (es.length : Int)) ∧ w = w' := by
  obtain ⟨A, c, rfl, hc, _⟩ := own_reads0 hq.own
  have hcell := hq.cell
  clear hq
  go_enter Try.func24, Try.ntmps24
  go_wp2
  go_ret
  simp

def QPushPost (q B : Nat) (v : Value) (es : List PE) (x y : Int) (w : World) (e : Ending) (w' : World) : Prop :=
  ∃ (v' : Value) (es' : List PE), e = .returned (.int .i64 0) ∧ QAt w' q B v' es' ∧ es'.Perm ((x, y) :: es) ∧ HeapN es' es'.length ∧ Touch q v w w' ∧ SameOr v v' w

set_option maxHeartbeats 2000000 in
theorem qPush (q B : Nat) (v : Value) (es : List PE) (x y : Int) (w : World) (hq : QAt w q B v es) (hh : HeapN es es.length) (hB : B ≤ w.heap.size) (hm : es.length < 2000000) :
    Calls Try.prog 19 #[.pointer (some ⟨q, 0, none⟩), .agg #[.int .i64 x, .int .i64 y]] w (QPushPost q B v es x y w) := by
  have hb1 : Below w.heap.size w (w.alloc (Obj.cells #[Value.int .i64 x, Value.int .i64 y] 39)) := by (repeat (first | with_reducible exact Below.refl _ _ | with_reducible assumption | with_reducible refine below_drewN0 ?_ _ | with_reducible refine Below.drew ?_ | with_reducible refine Below.alloc ?_ ?_ _ | with_reducible refine Below.setCell ?_ ?_ _ | go_size | exact Below.size (by assumption)))
  have hcell := hq.cell
  have hql := hq.lt
  have HP := fun W hQ hBW => hPush q B v es x y W hQ hh hBW (by omega)
  have HQ := Lib.hid hq
  obtain ⟨A, c, rfl, hc, _⟩ := own_reads0 hq.own
  have i1 : ¬ ((2000000 : Int) ≤ (es.length : Int)) := by omega
  clear hq hh
  go_enter Try.func19, Try.ntmps19
  go_upto_region 5 with fail
  (refine wp_quiet_tail 6 (by kernel_rfl) (by kernel_rfl) ?_
   simp only [List.take_succ_cons, List.take_zero, List.drop_succ_cons, List.drop_zero]
   repeat (go_big_quiet_step (fail))
   refine wpQuiet_nil ?_
   intro _ hw'
   obtain ⟨nq, hw''⟩ := hw'
   subst hw'')
  go_wp2_with (go_at_call 62; go_loud (
    refine (HP _ ?_ ?_).mono ?_
    · exact (HQ.out.below hb1).below (by (repeat (first | with_reducible exact Below.refl _ _ | with_reducible assumption | with_reducible refine below_drewN0 ?_ _ | with_reducible refine Below.drew ?_ | with_reducible refine Below.alloc ?_ ?_ _ | with_reducible refine Below.setCell ?_ ?_ _ | go_size | exact Below.size (by assumption))))
    · go_size
    rintro e w2 ⟨v2, es2, rfl, hq2, hp2, hh2, ht2, hs2⟩))
  go_ret
  refine ⟨v2, es2, rfl, hq2, hp2, hh2, ?_, ?_⟩
  · exact ((Touch.refl q _ w).below (by (repeat (first | with_reducible exact Below.refl _ _ | with_reducible assumption | with_reducible refine below_drewN0 ?_ _ | with_reducible refine Below.drew ?_ | with_reducible refine Below.alloc ?_ ?_ _ | with_reducible refine Below.setCell ?_ ?_ _ | go_size | exact Below.size (by assumption))))).trans ht2
  · intro g hg
    rcases hs2 g hg with h9 | h9
    · exact .inl h9
    · right; simp at h9; omega

theorem qPeek (q B : Nat) (v : Value) (es : List PE) (x : PE) (w : World) (hq : QAt w q B v es) (hx : es[0]? = some x) :
    Calls Try.prog 23 #[.pointer (some ⟨q, 0, none⟩)] w fun e w' => e = .returned (.tuple #[.agg #[.int .i64 x.1, .int .i64 x.2], .int .i64 0]) ∧ Below w.heap.size w w' := by
  obtain ⟨g, c, cur, rfl, hBg, hgl, _, hnc, _, _, _⟩ := own_open hq.own (by have := (List.getElem?_eq_some_iff.1 hx).1; omega)
  have hcell := hq.cell
  have hql := hq.lt
  have hrd := (own_reads1 hq.own).1
  obtain ⟨b0, o0, hbo, _, e1, e2⟩ := hrd.pair' 0 x hx
  obtain ⟨rfl, rfl⟩ : b0 = g ∧ o0 = 0 := by simpa using hbo.symm
  simp only [Nat.zero_mul, Nat.add_zero, Nat.zero_add] at e1 e2
  have hl := (List.getElem?_eq_some_iff.1 hx).1
  have i1 : ((es.length : Int) == 0) = false := by simp; intro h; rw [h] at hl; simp at hl
  have i2 : (0 : Int) < (es.length : Int) := by omega
  clear hq hx hrd hbo
  go_enter Try.func23, Try.ntmps23
  go_wp2_with fail
  refine bodyPost_ret (v := .tuple #[.agg #[.int .i64 x.1, .int .i64 x.2], .int .i64 0]) (by simp [results, Try.results23, go_sem]) rfl ?_
  exact ⟨rfl, by (repeat (first | with_reducible exact Below.refl _ _ | with_reducible assumption | with_reducible refine below_drewN0 ?_ _ | with_reducible refine Below.drew ?_ | with_reducible refine Below.alloc ?_ ?_ _ | with_reducible refine Below.setCell ?_ ?_ _ | go_size | exact Below.size (by assumption)))⟩

end Go.Proofs.Ytglhdoibglafbaa
