/- The walks of the document's answer for graphs: Right, turned, Index, Has, Is. -/
import Derived.Test.YtglhdoibglafbaaU13
import Derived.Test.YtglhdoibglafbaaU02
import Derived.Deep.RegionLaw
namespace Go.Proofs.Ytglhdoibglafbaa
open Go Go.RowKit
set_option maxRecDepth 100000
set_option linter.unusedVariables false
set_option linter.unusedSimpArgs false

set_option maxHeartbeats 2000000 in
theorem refRight (n : Int) (es : List (Int × Int)) (A : Option Addr) (c : Nat) (w : World) (hr : Reads w A (pcells es)) (hc : es.length ≤ c) (hm : es.length ≤ 4611686018427387903) :
    Calls Try.prog 32 #[.agg #[.int .i64 n, .slice A es.length c]] w fun e w' => e = .returned (.bool (rightB n es)) ∧ Below w.heap.size w w' := by
  by_cases h1 : n < 0
  · have HR : rightB n es = false := by simp [rightB]; omega
    rw [HR]; clear HR
    go_enter Try.func32, Try.ntmps32
    go_wp2
    go_ret
    exact ⟨rfl, by go_grown⟩
  by_cases h2 : 4096 < n
  · have HR : rightB n es = false := by simp [rightB]; omega
    rw [HR]; clear HR
    go_enter Try.func32, Try.ntmps32
    go_wp2
    go_ret
    exact ⟨rfl, by go_grown⟩
  by_cases h3 : 65536 < es.length
  · have HR : rightB n es = false := by simp [rightB]; omega
    rw [HR]; clear HR
    have h3' : decide ((65536 : Int) < (es.length : Int)) = true := decide_eq_true (by omega)
    go_enter Try.func32, Try.ntmps32
    go_wp2
    go_ret
    exact ⟨rfl, by go_grown⟩
  have h3' : decide ((65536 : Int) < (es.length : Int)) = false := decide_eq_false (by omega)
  go_enter Try.func32, Try.ntmps32
  go_wp2
  generalize hW : w.alloc (Obj.cells #[Value.int IntKind.i64 n, Value.slice A es.length c] 25) = W
  have hbW : Below w.heap.size w W := by rw [← hW]; go_grown
  have hr1 := hr.below hbW
  have hg0 : W.cell? ⟨w.heap.size, 0, none⟩ = some (.int .i64 n) := by rw [← hW]; simp [go_sem]
  have hg1 : W.cell? ⟨w.heap.size, 1, none⟩ = some (.slice A es.length c) := by rw [← hW]; simp [go_sem]
  have hgW : w.heap.size < W.heap.size := by rw [← hW]; simp
  clear hW hr
  go_loopw [3] (fun i wr => ∃ k : Nat, k ≤ es.length ∧ i = .int .i64 k ∧ Hid (∀ j, j < k → okAt n es j = true) ∧ Below W.heap.size W wr) (fun i _ => es.length - (intOf i).toNat)
  case atStart => exact ⟨0, Nat.zero_le _, rfl, fun j hj => by omega, Below.refl _ _⟩
  case round =>
    obtain ⟨k, hk, rfl, hok, hb⟩ := hrel
    have hg0' := (hb.cell (p := ⟨w.heap.size, 0, none⟩) hgW).trans hg0
    have hg1' := (hb.cell (p := ⟨w.heap.size, 1, none⟩) hgW).trans hg1
    have hfin : ∀ w', Below W.heap.size wr w' → Below w.heap.size w w' := fun w' h' => hbW.trans ((hb.trans h').mono hbW.size)
    have hWr : W.heap.size ≤ wr.heap.size := hb.size
    have hgr : w.heap.size < wr.heap.size := Nat.lt_of_lt_of_le hgW hb.size
    by_cases hlt : k < es.length
    · obtain ⟨⟨x, y⟩, hxy⟩ : ∃ e, es[k]? = some e := ⟨es[k], by simp [hlt]⟩
      obtain ⟨b, o, rfl, hbl, e1, e2⟩ := (hr1.below hb).pair' k _ hxy
      have HXY := Lib.hid hxy
      clear hxy
      by_cases k1 : x < 0
      · go_wp2_with fail
        go_ret
        refine ⟨?_, hfin _ (by (repeat (first | with_reducible exact Below.refl _ _ | with_reducible assumption | with_reducible refine below_drewN0 ?_ _ | with_reducible refine Below.drew ?_ | with_reducible refine Below.alloc ?_ ?_ _ | with_reducible refine Below.setCell ?_ ?_ _ | go_size | exact Below.size (by assumption))))⟩
        rw [right_no n es k hlt (okAt_no HXY.out (by omega))]; rfl
      by_cases k2 : y ≤ x
      · go_wp2_with fail
        go_ret
        refine ⟨?_, hfin _ (by (repeat (first | with_reducible exact Below.refl _ _ | with_reducible assumption | with_reducible refine below_drewN0 ?_ _ | with_reducible refine Below.drew ?_ | with_reducible refine Below.alloc ?_ ?_ _ | with_reducible refine Below.setCell ?_ ?_ _ | go_size | exact Below.size (by assumption))))⟩
        rw [right_no n es k hlt (okAt_no HXY.out (by omega))]; rfl
      by_cases k3 : n ≤ y
      · have k3' : decide (n ≤ y) = true := decide_eq_true k3
        go_wp2_with fail
        go_ret
        refine ⟨?_, hfin _ (by (repeat (first | with_reducible exact Below.refl _ _ | with_reducible assumption | with_reducible refine below_drewN0 ?_ _ | with_reducible refine Below.drew ?_ | with_reducible refine Below.alloc ?_ ?_ _ | with_reducible refine Below.setCell ?_ ?_ _ | go_size | exact Below.size (by assumption))))⟩
        rw [right_no n es k hlt (okAt_no HXY.out (by omega))]; rfl
      have k3' : decide (n ≤ y) = false := decide_eq_false k3
      go_wp2_with fail
      by_cases k4 : k = 0
      · subst k4
        (refine wp_quiet_tail 10 (by kernel_rfl) (by kernel_rfl) ?_
         simp only [List.take_succ_cons, List.take_zero, List.drop_succ_cons, List.drop_zero]
         repeat (go_big_quiet_step (fail))
         refine wpQuiet_nil ?_
         intro _ hw'
         obtain ⟨nq, hw''⟩ := hw'
         subst hw'')
        go_wp2_with fail
        go_roundw
        case rel => exact ⟨1, by omega, rfl, Lib.hid (one_ok (p := fun j => okAt n es j = true) (okAt_zero (n := n) HXY.out (by omega) (by omega) (by omega))), hb.trans (by (repeat (first | with_reducible exact Below.refl _ _ | with_reducible assumption | with_reducible refine below_drewN0 ?_ _ | with_reducible refine Below.drew ?_ | with_reducible refine Below.alloc ?_ ?_ _ | with_reducible refine Below.setCell ?_ ?_ _ | go_size | exact Below.size (by assumption))))⟩
        case measure => simp [intOf]; omega
      obtain ⟨j, rfl⟩ : ∃ j, k = j + 1 := ⟨k - 1, by omega⟩
      obtain ⟨⟨x', y'⟩, hxy'⟩ : ∃ e, es[j]? = some e := ⟨es[j], by simp⟩
      obtain ⟨b', o', hbo, hbl', e1', e2'⟩ := (hr1.below hb).pair' j _ hxy'
      have HXY' := Lib.hid hxy'
      clear hxy'
      obtain ⟨rfl, rfl⟩ : b' = b ∧ o' = o := by simpa using hbo.symm
      clear hbo
      have HS := Lib.hid (okAt_succ (n := n) HXY.out HXY'.out (by omega) (by omega) (by omega))
      have HA := fun W => aheadE x' y' x y W
      rw [ahead_cmp] at HA
      generalize decide (cmpE x' y' x y < 0) = cp at HS HA
      cases cp with
      | false =>
        (refine wp_quiet_tail 10 (by kernel_rfl) (by kernel_rfl) ?_
         simp only [List.take_succ_cons, List.take_zero, List.drop_succ_cons, List.drop_zero]
         repeat (go_big_quiet_step (fail))
         refine wpQuiet_nil ?_
         intro _ hw'
         obtain ⟨nq, hw''⟩ := hw'
         subst hw'')
        go_wp2_with (go_at_call 69; refine (HA _).mono ?_; rintro e w1 ⟨rfl, hb1⟩)
        go_ret
        refine ⟨?_, hfin _ ?_⟩
        · rw [right_no n es (j + 1) hlt HS.out]; rfl
        · exact Below.trans (by (repeat (first | with_reducible exact Below.refl _ _ | with_reducible assumption | with_reducible refine below_drewN0 ?_ _ | with_reducible refine Below.drew ?_ | with_reducible refine Below.alloc ?_ ?_ _ | with_reducible refine Below.setCell ?_ ?_ _ | go_size | exact Below.size (by assumption)))) (hb1.mono (by simp; omega))
      | true =>
        (refine wp_quiet_tail 10 (by kernel_rfl) (by kernel_rfl) ?_
         simp only [List.take_succ_cons, List.take_zero, List.drop_succ_cons, List.drop_zero]
         repeat (go_big_quiet_step (fail))
         refine wpQuiet_nil ?_
         intro _ hw'
         obtain ⟨nq, hw''⟩ := hw'
         subst hw'')
        go_wp2_with (go_at_call 69; refine (HA _).mono ?_; rintro e w1 ⟨rfl, hb1⟩)
        go_roundw
        case rel => exact ⟨j + 1 + 1, by omega, by go_num, Lib.hid (succ_ok (p := fun j => okAt n es j = true) hok.out HS.out), hb.trans (Below.trans (by (repeat (first | with_reducible exact Below.refl _ _ | with_reducible assumption | with_reducible refine below_drewN0 ?_ _ | with_reducible refine Below.drew ?_ | with_reducible refine Below.alloc ?_ ?_ _ | with_reducible refine Below.setCell ?_ ?_ _ | go_size | exact Below.size (by assumption)))) (hb1.mono (by simp; omega)))⟩
        case measure => simp [intOf]; omega
    · go_wp2_with fail
      go_ret
      exact ⟨by rw [right_yes n es h1 h2 (by omega) (fun j hj => hok.out j (by omega))]; rfl, hfin _ (Below.refl _ _)⟩

theorem turned_any (a b : Int) (w : World) :
    Calls Try.prog 71 #[.int .i64 a, .int .i64 b] w fun e w' => e = .returned (.agg #[.int .i64 (min a b), .int .i64 (max a b)]) ∧ Below w.heap.size w w' := by
  by_cases h : b < a
  · have h1 : min a b = b := by omega
    have h2 : max a b = a := by omega
    rw [h1, h2]; clear h1 h2
    go_enter Try.func71, Try.ntmps71
    go_wp2
    go_returns
    exact ⟨rfl, by (repeat (first | with_reducible exact Below.refl _ _ | with_reducible assumption | with_reducible refine below_drewN0 ?_ _ | with_reducible refine Below.drew ?_ | with_reducible refine Below.alloc ?_ ?_ _ | with_reducible refine Below.setCell ?_ ?_ _ | go_size | exact Below.size (by assumption)))⟩
  · have h1 : min a b = a := by omega
    have h2 : max a b = b := by omega
    rw [h1, h2]; clear h1 h2
    go_enter Try.func71, Try.ntmps71
    go_wp2
    go_returns
    exact ⟨rfl, by (repeat (first | with_reducible exact Below.refl _ _ | with_reducible assumption | with_reducible refine below_drewN0 ?_ _ | with_reducible refine Below.drew ?_ | with_reducible refine Below.alloc ?_ ?_ _ | with_reducible refine Below.setCell ?_ ?_ _ | go_size | exact Below.size (by assumption)))⟩

set_option maxHeartbeats 1000000 in
theorem refIndex (n a b : Int) (es : List (Int × Int)) (A : Option Addr) (c : Nat) (w : World) (hr : Reads w A (pcells es)) (hc : es.length ≤ c) (hm : es.length ≤ 4611686018427387903) :
    Calls Try.prog 36 #[.agg #[.int .i64 n, .slice A es.length c], .int .i64 a, .int .i64 b] w fun e w' => e = .returned (.int .i64 (indexB n es a b)) ∧ Below w.heap.size w w' := by
  have HRt := fun W hR => refRight n es A c W hR hc hm
  unfold indexB
  generalize hrb : rightB n es = rb at HRt ⊢
  cases rb with
  | false =>
    rw [if_neg (by simp)]
    go_enter Try.func36, Try.ntmps36
    go_wp2_with (go_at_call 32; refine (HRt _ ?_).mono ?_; exact hr.below (by (repeat (first | with_reducible exact Below.refl _ _ | with_reducible assumption | with_reducible refine below_drewN0 ?_ _ | with_reducible refine Below.drew ?_ | with_reducible refine Below.alloc ?_ ?_ _ | with_reducible refine Below.setCell ?_ ?_ _ | go_size | exact Below.size (by assumption)))); rintro e w1 ⟨rfl, hb1⟩)
    go_ret
    exact ⟨rfl, Below.trans (by (repeat (first | with_reducible exact Below.refl _ _ | with_reducible assumption | with_reducible refine below_drewN0 ?_ _ | with_reducible refine Below.drew ?_ | with_reducible refine Below.alloc ?_ ?_ _ | with_reducible refine Below.setCell ?_ ?_ _ | go_size | exact Below.size (by assumption)))) (hb1.mono (by simp))⟩
  | true =>
    rw [if_pos rfl]
    clear hrb
    have HT := fun W => turned_any a b W
    generalize min a b = x at HT ⊢
    generalize max a b = y at HT ⊢
    go_enter Try.func36, Try.ntmps36
    go_wp2_with (first | (go_at_call 32; refine (HRt _ ?_).mono ?_; exact hr.below (by (repeat (first | with_reducible exact Below.refl _ _ | with_reducible assumption | with_reducible refine below_drewN0 ?_ _ | with_reducible refine Below.drew ?_ | with_reducible refine Below.alloc ?_ ?_ _ | with_reducible refine Below.setCell ?_ ?_ _ | go_size | exact Below.size (by assumption)))); rintro e w1 ⟨rfl, hb1⟩) | (go_at_call 71; refine (HT _).mono ?_; rintro e w2 ⟨rfl, hb2⟩))
    have hB : Below (w.alloc (Obj.cells #[Value.int IntKind.i64 n, Value.slice A es.length c] 25)).heap.size (w.alloc (Obj.cells #[Value.int IntKind.i64 n, Value.slice A es.length c] 25)) (w2.alloc (Obj.cells #[Value.int IntKind.i64 x, Value.int IntKind.i64 y] 28)) :=
      (hb1.trans (hb2.mono hb1.size)).alloc (Nat.le_trans hb1.size hb2.size) _
    have hg1 := (hB.cell (p := ⟨w.heap.size, 1, none⟩) (by simp)).trans (show _ = some (Value.slice A es.length c) by simp [go_sem])
    have hr1 := hr.below (w1 := w2.alloc (Obj.cells #[Value.int IntKind.i64 x, Value.int IntKind.i64 y] 28)) (Below.trans (by (repeat (first | with_reducible exact Below.refl _ _ | with_reducible assumption | with_reducible refine below_drewN0 ?_ _ | with_reducible refine Below.drew ?_ | with_reducible refine Below.alloc ?_ ?_ _ | with_reducible refine Below.setCell ?_ ?_ _ | go_size | exact Below.size (by assumption)))) (hB.mono (by simp)))
    have hbW : Below w.heap.size w (w2.alloc (Obj.cells #[Value.int IntKind.i64 x, Value.int IntKind.i64 y] 28)) := Below.trans (by (repeat (first | with_reducible exact Below.refl _ _ | with_reducible assumption | with_reducible refine below_drewN0 ?_ _ | with_reducible refine Below.drew ?_ | with_reducible refine Below.alloc ?_ ?_ _ | with_reducible refine Below.setCell ?_ ?_ _ | go_size | exact Below.size (by assumption)))) (hB.mono (by simp))
    have hx0 : (w2.alloc (Obj.cells #[Value.int IntKind.i64 x, Value.int IntKind.i64 y] 28)).cell? ⟨w2.heap.size, 0, none⟩ = some (.int .i64 x) := by simp [go_sem]
    have hx1 : (w2.alloc (Obj.cells #[Value.int IntKind.i64 x, Value.int IntKind.i64 y] 28)).cell? ⟨w2.heap.size, 1, none⟩ = some (.int .i64 y) := by simp [go_sem]
    have hs2 : w.heap.size < w2.heap.size := by have := hb1.size; have := hb2.size; simp at *; omega
    have hs3 : w2.heap.size < (w2.alloc (Obj.cells #[Value.int IntKind.i64 x, Value.int IntKind.i64 y] 28)).heap.size := by simp
    clear hb1 hb2 hB hr HRt HT
    generalize w2.alloc (Obj.cells #[Value.int IntKind.i64 x, Value.int IntKind.i64 y] 28) = W at *
    generalize w2.heap.size = g2 at *
    go_loopw [8] (fun i wr => ∃ k : Nat, k ≤ es.length ∧ i = .int .i64 k ∧ Hid (∀ j, j < k → es[j]? ≠ some (x, y)) ∧ Below W.heap.size W wr) (fun i _ => es.length - (intOf i).toNat)
    case atStart => exact ⟨0, Nat.zero_le _, rfl, fun j hj => by omega, Below.refl _ _⟩
    case round =>
      obtain ⟨k, hk, rfl, hok, hb⟩ := hrel
      have hg1' := (hb.cell (p := ⟨w.heap.size, 1, none⟩) (by simp; omega)).trans hg1
      have hx0' := (hb.cell (p := ⟨g2, 0, none⟩) hs3).trans hx0
      have hx1' := (hb.cell (p := ⟨g2, 1, none⟩) hs3).trans hx1
      have hfin : ∀ w', Below W.heap.size wr w' → Below w.heap.size w w' := fun w' h' => hbW.trans ((hb.trans h').mono hbW.size)
      have hWr : W.heap.size ≤ wr.heap.size := hb.size
      by_cases hlt : k < es.length
      · obtain ⟨⟨x', y'⟩, hxy⟩ : ∃ e, es[k]? = some e := ⟨es[k], by simp [hlt]⟩
        obtain ⟨b, o, rfl, hbl, e1, e2⟩ := (hr1.below hb).pair' k _ hxy
        have HXY := Lib.hid hxy
        clear hxy hg1 hx0 hx1 hr1
        by_cases he : x' = x
        · subst he
          by_cases he2 : y' = y
          · subst he2
            go_wp2_with fail
            go_quiet (fail)
            go_wp2_with fail
            go_ret
            exact ⟨by rw [findE_yes es _ k HXY.out hok.out]; rfl, hfin _ (by (repeat (first | with_reducible exact Below.refl _ _ | with_reducible assumption | with_reducible refine below_drewN0 ?_ _ | with_reducible refine Below.drew ?_ | with_reducible refine Below.alloc ?_ ?_ _ | with_reducible refine Below.setCell ?_ ?_ _ | go_size | exact Below.size (by assumption))))⟩
          · have he' : (y' == y) = false := by simpa using he2
            go_wp2_with fail
            go_quiet (fail)
            go_wp2_with fail
            go_roundw
            case rel => exact ⟨k + 1, by omega, by go_num, Lib.hid (succ_ok (p := fun j => es[j]? ≠ some (x', y)) hok.out (by rw [HXY.out]; simpa using he2)), hb.trans (by (repeat (first | with_reducible exact Below.refl _ _ | with_reducible assumption | with_reducible refine below_drewN0 ?_ _ | with_reducible refine Below.drew ?_ | with_reducible refine Below.alloc ?_ ?_ _ | with_reducible refine Below.setCell ?_ ?_ _ | go_size | exact Below.size (by assumption))))⟩
            case measure => simp [intOf]; omega
        · have he' : (x' == x) = false := by simpa using he
          go_wp2_with fail
          go_quiet (fail)
          go_wp2_with fail
          go_roundw
          case rel => exact ⟨k + 1, by omega, by go_num, Lib.hid (succ_ok (p := fun j => es[j]? ≠ some (x, y)) hok.out (by rw [HXY.out]; simp [he])), hb.trans (by (repeat (first | with_reducible exact Below.refl _ _ | with_reducible assumption | with_reducible refine below_drewN0 ?_ _ | with_reducible refine Below.drew ?_ | with_reducible refine Below.alloc ?_ ?_ _ | with_reducible refine Below.setCell ?_ ?_ _ | go_size | exact Below.size (by assumption))))⟩
          case measure => simp [intOf]; omega
      · go_wp2_with fail
        go_ret
        exact ⟨by rw [findE_no es _ (fun j hj => hok.out j (by omega))]; rfl, hfin _ (Below.refl _ _)⟩

theorem refHas (n a b : Int) (es : List (Int × Int)) (A : Option Addr) (c : Nat) (w : World) (hr : Reads w A (pcells es)) (hc : es.length ≤ c) (hm : es.length ≤ 4611686018427387903) :
    Calls Try.prog 34 #[.agg #[.int .i64 n, .slice A es.length c], .int .i64 a, .int .i64 b] w fun e w' => e = .returned (.bool (hasB n es a b)) ∧ Below w.heap.size w w' := by
  have HI := fun W hR => refIndex n a b es A c W hR hc hm
  unfold hasB
  generalize indexB n es a b = r at HI ⊢
  go_enter Try.func34, Try.ntmps34
  go_wp2_with (go_at_call 36; refine (HI _ ?_).mono ?_; exact hr.below (by (repeat (first | with_reducible exact Below.refl _ _ | with_reducible assumption | with_reducible refine below_drewN0 ?_ _ | with_reducible refine Below.drew ?_ | with_reducible refine Below.alloc ?_ ?_ _ | with_reducible refine Below.setCell ?_ ?_ _ | go_size | exact Below.size (by assumption)))); rintro e w1 ⟨rfl, hb1⟩)
  go_ret
  exact ⟨rfl, Below.trans (by (repeat (first | with_reducible exact Below.refl _ _ | with_reducible assumption | with_reducible refine below_drewN0 ?_ _ | with_reducible refine Below.drew ?_ | with_reducible refine Below.alloc ?_ ?_ _ | with_reducible refine Below.setCell ?_ ?_ _ | go_size | exact Below.size (by assumption)))) (hb1.mono (by simp))⟩

theorem refIs_any (n a : Int) (A : Option Addr) (l c : Nat) (w : World) :
    Calls Try.prog 88 #[.agg #[.int .i64 n, .slice A l c], .int .i64 a] w fun e w' => e = .returned (.bool (decide (0 ≤ a ∧ a < n))) ∧ Below w.heap.size w w' := by
  by_cases h : 0 ≤ a
  · by_cases h2 : a < n
    · rw [show decide (0 ≤ a ∧ a < n) = true by simp [h, h2]]
      go_enter Try.func88, Try.ntmps88
      go_wp2
      go_ret
      exact ⟨by simp, by (repeat (first | with_reducible exact Below.refl _ _ | with_reducible assumption | with_reducible refine below_drewN0 ?_ _ | with_reducible refine Below.drew ?_ | with_reducible refine Below.alloc ?_ ?_ _ | with_reducible refine Below.setCell ?_ ?_ _ | go_size | exact Below.size (by assumption)))⟩
    · rw [show decide (0 ≤ a ∧ a < n) = false by simp [h, h2]]
      go_enter Try.func88, Try.ntmps88
      go_wp2
      go_ret
      exact ⟨by simp; try omega, by (repeat (first | with_reducible exact Below.refl _ _ | with_reducible assumption | with_reducible refine below_drewN0 ?_ _ | with_reducible refine Below.drew ?_ | with_reducible refine Below.alloc ?_ ?_ _ | with_reducible refine Below.setCell ?_ ?_ _ | go_size | exact Below.size (by assumption)))⟩
  · rw [show decide (0 ≤ a ∧ a < n) = false by simp [h]]
    go_enter Try.func88, Try.ntmps88
    go_wp2
    go_ret
    exact ⟨by simp, by (repeat (first | with_reducible exact Below.refl _ _ | with_reducible assumption | with_reducible refine below_drewN0 ?_ _ | with_reducible refine Below.drew ?_ | with_reducible refine Below.alloc ?_ ?_ _ | with_reducible refine Below.setCell ?_ ?_ _ | go_size | exact Below.size (by assumption)))⟩
end Go.Proofs.Ytglhdoibglafbaa

/- The walk of put: an edge among some that rise. -/

namespace Go.Proofs.Ytglhdoibglafbaa
open Go Go.RowKit
set_option maxRecDepth 100000
set_option linter.unusedVariables false
set_option linter.unusedSimpArgs false


set_option maxHeartbeats 2000000 in
theorem put_any (es : List (Int × Int)) (x y : Int) (A : Option Addr) (c : Nat) (w : World) (hr : Reads w A (pcells es)) (hc : es.length ≤ c) (hm : es.length ≤ 100000) :
    Calls Try.prog 89 #[.slice A es.length c, .agg #[.int .i64 x, .int .i64 y]] w fun e w' => ∃ v, e = .returned v ∧ w'.ownsRow w.heap.size 28 2 v (es.length + 1) (pcells (putE es (x, y))) ∧ Below w.heap.size w w' := by
  go_enter Try.func89, Try.ntmps89
  go_wp2
  generalize hW : w.alloc (Obj.cells #[Value.int IntKind.i64 x, Value.int IntKind.i64 y] 28) = W
  have hbW : Below w.heap.size w W := by rw [← hW]; (repeat (first | with_reducible exact Below.refl _ _ | with_reducible assumption | with_reducible refine below_drewN0 ?_ _ | with_reducible refine Below.drew ?_ | with_reducible refine Below.alloc ?_ ?_ _ | with_reducible refine Below.setCell ?_ ?_ _ | go_size | exact Below.size (by assumption)))
  have hr1 := hr.below hbW
  have hg0 : W.cell? ⟨w.heap.size, 0, none⟩ = some (.int .i64 x) := by rw [← hW]; simp [go_sem]
  have hg1 : W.cell? ⟨w.heap.size, 1, none⟩ = some (.int .i64 y) := by rw [← hW]; simp [go_sem]
  have hgW : w.heap.size < W.heap.size := by rw [← hW]; simp
  clear hW hr
  go_loopw [5] (fun i wr => ∃ k : Nat, k ≤ es.length ∧ i = .int .i64 k ∧ Hid (putK es (x, y) es.length = putK es (x, y) k) ∧ Below W.heap.size W wr) (fun i _ => (intOf i).toNat)
  case atStart => exact ⟨es.length, Nat.le_refl _, rfl, rfl, Below.refl _ _⟩
  case round =>
    obtain ⟨k, hk, rfl, hok, hb⟩ := hrel
    have hg0' := (hb.cell (p := ⟨w.heap.size, 0, none⟩) hgW).trans hg0
    have hg1' := (hb.cell (p := ⟨w.heap.size, 1, none⟩) hgW).trans hg1
    have hfin : ∀ w', Below W.heap.size wr w' → Below w.heap.size w w' := fun w' h' => hbW.trans ((hb.trans h').mono hbW.size)
    have hWr : W.heap.size ≤ wr.heap.size := hb.size
    have hgr : w.heap.size < wr.heap.size := Nat.lt_of_lt_of_le hgW hb.size
    cases k with
    | zero =>
      (go_wp2_with fail
       refine wp_quiet_tail 9 (by kernel_rfl) (by kernel_rfl) ?_
       simp only [List.take_succ_cons, List.take_zero, List.drop_succ_cons, List.drop_zero]
       repeat (go_big_quiet_step (fail))
       refine wpQuiet_nil ?_
       intro _ hw'
       obtain ⟨nq, hw''⟩ := hw'
       subst hw'')
      go_wp2_with fail
      have hr2 := hr1.below hb
      have hS : ∀ w', Below wr.heap.size wr w' → w'.cell? ⟨w.heap.size, 0, none⟩ = some (.int .i64 x) ∧ w'.cell? ⟨w.heap.size, 1, none⟩ = some (.int .i64 y) := fun w' h' => ⟨(h'.cell (p := ⟨w.heap.size, 0, none⟩) hgr).trans hg0', (h'.cell (p := ⟨w.heap.size, 1, none⟩) hgr).trans hg1'⟩
      have HK0 : Hid (putK es (x, y) es.length = 0) := hok
      have hW0 : Below W.heap.size wr wr := Below.refl _ _
      clear hr1
      (have hlen := pcells_length es
       have hk1 : 0 ≤ es.length := by omega
       have HS := Lib.hid hS
       have HRT : Hid (Reads wr A (pcells (es.take 0))) := by
         have := (hr2).cut c 0 0 2 (Nat.zero_le _) (by rw [hlen]; omega) (by rw [hlen]; omega) (by omega)
         rw [pcells_take]
         by_cases hc0 : c = 0
         · have : pcells es = [] := List.eq_nil_of_length_eq_zero (by rw [hlen]; omega)
           exact .inl (by rw [this]; simp)
         · rw [if_neg hc0] at this
           simp only [Nat.zero_mul, List.drop_zero] at this
           rcases hr2 with h | ⟨b9, o9, h9, _⟩
           · exact .inl (by rw [h]; simp)
           · rw [h9] at this ⊢
             rwa [show ((some (⟨b9, o9, none⟩ : Addr)).map (·.add 0)) = some ⟨b9, o9, none⟩ by simp [Addr.add]] at this
       have HRD : Hid (Reads wr (if c = 0 then A else (A).map (·.add (0 * 2))) (pcells (es.drop 0))) := by
         have := (hr2).cut c 0 es.length 2 hk1 (by rw [hlen]; omega) (by rw [hlen]; omega) (by omega)
         rw [pcells_drop]
         rwa [List.take_of_length_le (by rw [hlen]; omega)] at this
       have HL1 : Hid ((pcells (es.take 0)).length = 0 * 2) := by unfold Hid; rw [pcells_length]; simp; try omega
       have HL2 : Hid ((pcells (es.drop 0)).length = (es.length - 0) * 2) := by unfold Hid; rw [pcells_length]; simp; try omega
       have HRD0 : Hid (Reads wr A (pcells (es.drop 0))) := hr2
       clear hlen
       go_region_held3 (fun w' => w'.cell? ⟨w.heap.size, 0, none⟩ = some (.int .i64 x) ∧ w'.cell? ⟨w.heap.size, 1, none⟩ = some (.int .i64 y)) (first | exact HS.out _ hb3 | exact HS.out _ hb2 | exact HS.out _ hb1 | exact HS.out _ (Below.alloc hb1 hb1.size _) | (refine HS.out _ ?_; (repeat (first | with_reducible exact Below.refl _ _ | with_reducible assumption | with_reducible refine below_drewN0 ?_ _ | with_reducible refine Below.drew ?_ | with_reducible refine Below.alloc ?_ ?_ _ | with_reducible refine Below.setCell ?_ ?_ _ | go_size | exact Below.size (by assumption))); done))
         (first
           | (refine step_app EI_edge rfl (.const (.slice none 0 0)) (.tmp 23) rfl (wr).heap.size (.slice none 0 0) 0 [] rfl (own_nil0 _ _ _ _) _ 0 _ (pcells (es.take 0)) rfl ?_ HL1.out (pcells_one _) ?_ ?_ ?_
              · exact HRT.out.below (by (repeat (first | with_reducible exact Below.refl _ _ | with_reducible assumption | with_reducible refine below_drewN0 ?_ _ | with_reducible refine Below.drew ?_ | with_reducible refine Below.alloc ?_ ?_ _ | with_reducible refine Below.setCell ?_ ?_ _ | go_size | exact Below.size (by assumption))))
              · omega
              · go_size
              intro v1 w1 hown1 hg1 hat1
              have hb1 : Below (wr).heap.size wr w1 := below_app (by (repeat (first | with_reducible exact Below.refl _ _ | with_reducible assumption | with_reducible refine below_drewN0 ?_ _ | with_reducible refine Below.drew ?_ | with_reducible refine Below.alloc ?_ ?_ _ | with_reducible refine Below.setCell ?_ ?_ _ | go_size | exact Below.size (by assumption)))) hg1 (by go_size) (by simp [Value.ownBlock]))
           | (refine step_app EI_edge rfl (.tmp 24) (.tmp 26) rfl (wr).heap.size v1 (0 + 0) ([] ++ pcells (es.take 0)) rfl ?_ (some ⟨_, 0, none⟩) 1 1 [.int .i64 x, .int .i64 y] rfl ?_ rfl ?_ ?_ ?_ ?_
              · first | exact hown1 | exact own_below0 hown1 (by (repeat (first | with_reducible exact Below.refl _ _ | with_reducible assumption | with_reducible refine below_drewN0 ?_ _ | with_reducible refine Below.drew ?_ | with_reducible refine Below.alloc ?_ ?_ _ | with_reducible refine Below.setCell ?_ ?_ _ | go_size | exact Below.size (by assumption))))
              · (first | exact reads_new _ [_, _] _ | (refine Reads.grown ?_ hg1 (by simp [Value.ownBlock]); exact reads_new _ [_, _] _))
              · simp [Value.oneCell']
              · omega
              · first | exact hb1.size | (have := hb1.size; go_size)
              intro v2 w2 hown2 hg2 hat2
              have hb2 : Below (wr).heap.size wr w2 := (by first | exact below_app hb1 hg2 hb1.size (fun g hg => (own_lt0 hown1 g hg).1) | exact below_app (Below.alloc hb1 hb1.size _) hg2 (by have := hb1.size; go_size) (fun g hg => (own_lt0 hown1 g hg).1)))
           | (refine step_app EI_edge rfl (.tmp 27) (.tmp 30) rfl (wr).heap.size v2 (0 + 0 + 1) _ rfl hown2 _ (es.length - 0) _ (pcells (es.drop 0)) rfl ?_ HL2.out (pcells_one _) ?_ ?_ ?_
              · first | exact HRD.out.below hb2 | exact HRD0.out.below hb2
              · omega
              · exact hb2.size
              intro v3 w3 hown3 hg3 hat3
              have hb3 : Below (wr).heap.size wr w3 := below_app hb2 hg3 hb2.size (fun g hg => (own_lt0 hown2 g hg).1)))
       all_goals go_wp2_with fail
       all_goals
         go_ret
         refine ⟨v3, rfl, own_cast hown3 (by have := hbW.size; have := hb.size; omega) (by omega) ?_, hfin _ (Below.trans hW0 (hb3.mono (by have := (hW0).size; omega)))⟩
         rw [putE, HK0.out, pcells_append]
         simp [pcells])
    | succ j =>
      obtain ⟨⟨x', y'⟩, hxy⟩ : ∃ e, es[j]? = some e := ⟨es[j], by simp⟩
      obtain ⟨b, o, rfl, hbl, e1, e2⟩ := (hr1.below hb).pair' j _ hxy
      have HXY := Lib.hid hxy
      clear hxy
      have HA := fun W => aheadE x y x' y' W
      rw [ahead_cmp] at HA
      have HK : Hid (putK es (x, y) (j + 1) = if ltE (x, y) (x', y') = true then putK es (x, y) j else j + 1) := by
        unfold Hid
        conv => lhs; unfold putK
        rw [HXY.out]
      unfold ltE at HK
      dsimp only at HK
      generalize decide (cmpE x y x' y' < 0) = cp at HA HK
      have hr2 := hr1.below hb
      cases cp with
      | true =>
        (go_wp2_with fail
         refine wp_quiet_tail 9 (by kernel_rfl) (by kernel_rfl) ?_
         simp only [List.take_succ_cons, List.take_zero, List.drop_succ_cons, List.drop_zero]
         repeat (go_big_quiet_step (fail))
         refine wpQuiet_nil ?_
         intro _ hw'
         obtain ⟨nq, hw''⟩ := hw'
         subst hw'')
        go_wp2_with (go_at_call 69; refine (HA _).mono ?_; rintro e w1 ⟨rfl, hb1⟩)
        go_roundw
        case rel => exact ⟨j, by omega, rfl, hok.out.trans HK.out, hb.trans (Below.trans (by (repeat (first | with_reducible exact Below.refl _ _ | with_reducible assumption | with_reducible refine below_drewN0 ?_ _ | with_reducible refine Below.drew ?_ | with_reducible refine Below.alloc ?_ ?_ _ | with_reducible refine Below.setCell ?_ ?_ _ | go_size | exact Below.size (by assumption)))) (hb1.mono (by simp; omega)))⟩
        case measure => simp [intOf]
      | false =>
        (go_wp2_with fail
         refine wp_quiet_tail 9 (by kernel_rfl) (by kernel_rfl) ?_
         simp only [List.take_succ_cons, List.take_zero, List.drop_succ_cons, List.drop_zero]
         repeat (go_big_quiet_step (fail))
         refine wpQuiet_nil ?_
         intro _ hw'
         obtain ⟨nq, hw''⟩ := hw'
         subst hw'')
        go_wp2_with (go_at_call 69; refine (HA _).mono ?_; rintro e wc ⟨rfl, hbc0⟩)
        have hbc : Below wr.heap.size wr wc := Below.trans (by (repeat (first | with_reducible exact Below.refl _ _ | with_reducible assumption | with_reducible refine below_drewN0 ?_ _ | with_reducible refine Below.drew ?_ | with_reducible refine Below.alloc ?_ ?_ _ | with_reducible refine Below.setCell ?_ ?_ _ | go_size | exact Below.size (by assumption)))) (hbc0.mono (by simp))
        have hrc := hr2.below hbc
        have hsc := hbc.size
        have hS : ∀ w', Below wc.heap.size wc w' → w'.cell? ⟨w.heap.size, 0, none⟩ = some (.int .i64 x) ∧ w'.cell? ⟨w.heap.size, 1, none⟩ = some (.int .i64 y) := fun w' h' => ⟨((h'.cell (p := ⟨w.heap.size, 0, none⟩) (Nat.lt_of_lt_of_le hgr hsc)).trans (hbc.cell (p := ⟨w.heap.size, 0, none⟩) hgr)).trans hg0', ((h'.cell (p := ⟨w.heap.size, 1, none⟩) (Nat.lt_of_lt_of_le hgr hsc)).trans (hbc.cell (p := ⟨w.heap.size, 1, none⟩) hgr)).trans hg1'⟩
        have HK0 : Hid (putK es (x, y) es.length = j + 1) := hok.out.trans HK.out
        have hW0 : Below W.heap.size wr wc := hbc.mono hWr
        clear hbc0 hr1 hr2 hg0' hg1' e1 e2 HA HK HXY hok
        have q0 : (0 : Int) ≤ (j : Int) + 1 := by omega
        have q1 : (j : Int) + 1 ≤ (c : Int) := by omega
        have q2 : (j : Int) + 1 ≤ (es.length : Int) := by omega
        have q3 : ((j : Int) + 1).toNat = j + 1 := by omega
        (have hlen := pcells_length es
         have hk1 : (j + 1) ≤ es.length := by omega
         have HS := Lib.hid hS
         have HRT : Hid (Reads wc (some (⟨b, o, none⟩ : Addr)) (pcells (es.take (j + 1)))) := by
           have := (hrc).cut c 0 (j + 1) 2 (Nat.zero_le _) (by rw [hlen]; omega) (by rw [hlen]; omega) (by omega)
           rw [pcells_take]
           by_cases hc0 : c = 0
           · have : pcells es = [] := List.eq_nil_of_length_eq_zero (by rw [hlen]; omega)
             exact .inl (by rw [this]; simp)
           · rw [if_neg hc0] at this
             simp only [Nat.zero_mul, List.drop_zero] at this
             rcases hrc with h | ⟨b9, o9, h9, _⟩
             · exact .inl (by rw [h]; simp)
             · rw [h9] at this ⊢
               rwa [show ((some (⟨b9, o9, none⟩ : Addr)).map (·.add 0)) = some ⟨b9, o9, none⟩ by simp [Addr.add]] at this
         have HRD : Hid (Reads wc (if c = (j + 1) then (some (⟨b, o, none⟩ : Addr)) else ((some (⟨b, o, none⟩ : Addr))).map (·.add ((j + 1) * 2))) (pcells (es.drop (j + 1)))) := by
           have := (hrc).cut c (j + 1) es.length 2 hk1 (by rw [hlen]; omega) (by rw [hlen]; omega) (by omega)
           rw [pcells_drop]
           rwa [List.take_of_length_le (by rw [hlen]; omega)] at this
         have HL1 : Hid ((pcells (es.take (j + 1))).length = (j + 1) * 2) := by unfold Hid; rw [pcells_length]; simp; try omega
         have HL2 : Hid ((pcells (es.drop (j + 1))).length = (es.length - (j + 1)) * 2) := by unfold Hid; rw [pcells_length]; simp; try omega
         have HRD0 : Hid (Reads wc (some (⟨b, o, none⟩ : Addr)) (pcells (es.drop 0))) := hrc
         clear hlen
         go_region_held3 (fun w' => w'.cell? ⟨w.heap.size, 0, none⟩ = some (.int .i64 x) ∧ w'.cell? ⟨w.heap.size, 1, none⟩ = some (.int .i64 y)) (first | exact HS.out _ hb3 | exact HS.out _ hb2 | exact HS.out _ hb1 | exact HS.out _ (Below.alloc hb1 hb1.size _) | (refine HS.out _ ?_; (repeat (first | with_reducible exact Below.refl _ _ | with_reducible assumption | with_reducible refine below_drewN0 ?_ _ | with_reducible refine Below.drew ?_ | with_reducible refine Below.alloc ?_ ?_ _ | with_reducible refine Below.setCell ?_ ?_ _ | go_size | exact Below.size (by assumption))); done))
           (first
             | (refine step_app EI_edge rfl (.const (.slice none 0 0)) (.tmp 23) rfl (wc).heap.size (.slice none 0 0) 0 [] rfl (own_nil0 _ _ _ _) _ (j + 1) _ (pcells (es.take (j + 1))) rfl ?_ HL1.out (pcells_one _) ?_ ?_ ?_
                · exact HRT.out.below (by (repeat (first | with_reducible exact Below.refl _ _ | with_reducible assumption | with_reducible refine below_drewN0 ?_ _ | with_reducible refine Below.drew ?_ | with_reducible refine Below.alloc ?_ ?_ _ | with_reducible refine Below.setCell ?_ ?_ _ | go_size | exact Below.size (by assumption))))
                · omega
                · go_size
                intro v1 w1 hown1 hg1 hat1
                have hb1 : Below (wc).heap.size wc w1 := below_app (by (repeat (first | with_reducible exact Below.refl _ _ | with_reducible assumption | with_reducible refine below_drewN0 ?_ _ | with_reducible refine Below.drew ?_ | with_reducible refine Below.alloc ?_ ?_ _ | with_reducible refine Below.setCell ?_ ?_ _ | go_size | exact Below.size (by assumption)))) hg1 (by go_size) (by simp [Value.ownBlock]))
             | (refine step_app EI_edge rfl (.tmp 24) (.tmp 26) rfl (wc).heap.size v1 (0 + (j + 1)) ([] ++ pcells (es.take (j + 1))) rfl ?_ (some ⟨_, 0, none⟩) 1 1 [.int .i64 x, .int .i64 y] rfl ?_ rfl ?_ ?_ ?_ ?_
                · first | exact hown1 | exact own_below0 hown1 (by (repeat (first | with_reducible exact Below.refl _ _ | with_reducible assumption | with_reducible refine below_drewN0 ?_ _ | with_reducible refine Below.drew ?_ | with_reducible refine Below.alloc ?_ ?_ _ | with_reducible refine Below.setCell ?_ ?_ _ | go_size | exact Below.size (by assumption))))
                · (first | exact reads_new _ [_, _] _ | (refine Reads.grown ?_ hg1 (by simp [Value.ownBlock]); exact reads_new _ [_, _] _))
                · simp [Value.oneCell']
                · omega
                · first | exact hb1.size | (have := hb1.size; go_size)
                intro v2 w2 hown2 hg2 hat2
                have hb2 : Below (wc).heap.size wc w2 := (by first | exact below_app hb1 hg2 hb1.size (fun g hg => (own_lt0 hown1 g hg).1) | exact below_app (Below.alloc hb1 hb1.size _) hg2 (by have := hb1.size; go_size) (fun g hg => (own_lt0 hown1 g hg).1)))
             | (refine step_app EI_edge rfl (.tmp 27) (.tmp 30) rfl (wc).heap.size v2 (0 + (j + 1) + 1) _ rfl hown2 _ (es.length - (j + 1)) _ (pcells (es.drop (j + 1))) rfl ?_ HL2.out (pcells_one _) ?_ ?_ ?_
                · first | exact HRD.out.below hb2 | exact HRD0.out.below hb2
                · omega
                · exact hb2.size
                intro v3 w3 hown3 hg3 hat3
                have hb3 : Below (wc).heap.size wc w3 := below_app hb2 hg3 hb2.size (fun g hg => (own_lt0 hown2 g hg).1)))
         all_goals go_wp2_with fail
         all_goals
           go_ret
           refine ⟨v3, rfl, own_cast hown3 (by have := hbW.size; have := hb.size; omega) (by omega) ?_, hfin _ (Below.trans hW0 (hb3.mono (by have := (hW0).size; omega)))⟩
           rw [putE, HK0.out, pcells_append]
           simp [pcells])

end Go.Proofs.Ytglhdoibglafbaa
