/- The law's first line: an engine that is awake. -/
import Derived.Test.YtgddfmfiiodgbaaU28
import Derived.Test.YtgddfmfiiodgbaaU03
namespace Go.Proofs.Ytgddfmfiiodgbaa
open Go Go.RowKit
set_option maxRecDepth 100000
set_option linter.unusedVariables false
set_option linter.unusedSimpArgs false

def triE : List (Int × Int) := [(0, 1), (0, 2), (1, 2)]
theorem tri_right : rightB 3 triE = true := by decide
theorem tri_size {M : Nat → Option Nat} (hM : IsMat 3 (adjE triE) M) (hno : ∀ p, ¬ AugW (adjE triE) M p) : sizeM 3 M = 1 := by
  have hg : IsGr 3 (adjE triE) := right_gr (n := 3) ((right_iff _ _).1 tri_right)
  have h0 : IsMat 3 (adjE triE) (fun _ => none) := ⟨fun h => (by cases h), fun h => (by cases h), fun h => (by cases h)⟩
  have hM' := h0.pair hg (v := 0) (u := 1) (.inr (by decide)) rfl rfl
  have h1 := size_max hg hM hM' hno
  have h2 := size_free hg hM
  have h3 : sizeM 3 (upd (upd (fun _ => none) 0 (some 1)) 1 (some 0)) = 1 := by decide
  omega

set_option maxHeartbeats 2000000 in
theorem awake11 (w : World) : Calls Try.prog 33 #[] w fun e w' => e = .returned (.bool true) ∧ Below w.heap.size w w' := by
  have HLA := fun (A : Option Addr) (W : World) (h : Reads W A (pcells triE)) => (show Calls Try.prog 32 #[.agg #[.int .i64 3, .slice A 3 3]] W (LargestPost 3 triE W) from largest_yes 3 triE A 3 W h (by decide) tri_right)
  have HSZ := fun (M : Nat → Option Nat) (mA : Option Addr) (W : World) (h1 : IsMat 3 (adjE triE) M) (h2 : ∀ p, ¬ AugW (adjE triE) M p) (h : Reads W mA (icells (mateL 3 M))) => msize_any h1 mA 3 W h (by omega)
  go_enter Try.func33, Try.ntmps33
  go_upto_region 2 with fail
  obtain ⟨w1, hw1⟩ : ∃ w1, w1 = (w.alloc (Obj.cells #[Value.int IntKind.i64 0, Value.int IntKind.i64 1, Value.int IntKind.i64 0, Value.int IntKind.i64 2, Value.int IntKind.i64 1, Value.int IntKind.i64 2] 49)).alloc (Obj.cells #[Value.int IntKind.i64 3, Value.slice (some { block := w.heap.size, off := 0 }) 3 3] 25) := ⟨_, rfl⟩
  rw [← hw1]
  have hb1 : Below w.heap.size w w1 := by rw [hw1]; exact ((Below.refl _ _).alloc (Nat.le_refl _) _).alloc (by simp) _
  have hr1 : Reads w1 (some ⟨w.heap.size, 0, none⟩) (pcells triE) := by
    rw [hw1]
    exact reads_blk (T := 49) (heap_old (heap_alloc_new _ _))
  have h1 : w1.heap[w.heap.size + 1]? = some (.cells #[Value.int IntKind.i64 3, Value.slice (some { block := w.heap.size, off := 0 }) 3 3] 25 (0, 0)) := by
    rw [hw1]
    have := heap_alloc_new (w.alloc (Obj.cells #[Value.int IntKind.i64 0, Value.int IntKind.i64 1, Value.int IntKind.i64 0, Value.int IntKind.i64 2, Value.int IntKind.i64 1, Value.int IntKind.i64 2] 49)) (Obj.cells #[Value.int IntKind.i64 3, Value.slice (some { block := w.heap.size, off := 0 }) 3 3] 25)
    rw [World.size_alloc] at this
    exact this
  have c0 := blkc0 h1 0 _ rfl
  have c1 := blkc0 h1 1 _ rfl
  have HB1 := Lib.hid hb1
  clear hw1 hb1 h1
  go_upto_region 3 with (go_at_call 32; (refine (HLA _ w1 hr1).mono ?_; rintro e w2 ⟨M, mA, g, r, k, rfl, hM, hno, hRO, hg1, hg2, hr, hk, hb2⟩))
  have hsz := tri_size hM hno
  have HS := HSZ M mA
  rw [hsz] at HS
  go_wp2_with (go_at_call 35; (refine (HS _ hM hno (hRO.old _).reads).mono ?_; rintro e w3 ⟨rfl, hb3⟩))
  go_ret
  exact ⟨rfl, HB1.out.trans ((hb2.mono HB1.out.size).trans ((((Below.refl _ _).alloc (Nat.le_refl _) _).trans (hb3.mono (by simp))).mono (Nat.le_trans HB1.out.size hb2.size)))⟩
end Go.Proofs.Ytgddfmfiiodgbaa

/- The walks of the document's answer for graphs: Right, turned, Index, Has, Is. -/

namespace Go.Proofs.Ytgddfmfiiodgbaa
open Go Go.RowKit
set_option maxRecDepth 100000
set_option linter.unusedVariables false
set_option linter.unusedSimpArgs false

set_option maxHeartbeats 2000000 in
theorem refRight (n : Int) (es : List (Int × Int)) (A : Option Addr) (c : Nat) (w : World) (hr : Reads w A (pcells es)) (hc : es.length ≤ c) (hm : es.length ≤ 4611686018427387903) :
    Calls Try.prog 44 #[.agg #[.int .i64 n, .slice A es.length c]] w fun e w' => e = .returned (.bool (rightB n es)) ∧ Below w.heap.size w w' := by
  by_cases h1 : n < 0
  · have HR : rightB n es = false := by simp [rightB]; omega
    rw [HR]; clear HR
    go_enter Try.func44, Try.ntmps44
    go_wp2
    go_ret
    exact ⟨rfl, by go_grown⟩
  by_cases h2 : 4096 < n
  · have HR : rightB n es = false := by simp [rightB]; omega
    rw [HR]; clear HR
    go_enter Try.func44, Try.ntmps44
    go_wp2
    go_ret
    exact ⟨rfl, by go_grown⟩
  by_cases h3 : 65536 < es.length
  · have HR : rightB n es = false := by simp [rightB]; omega
    rw [HR]; clear HR
    have h3' : decide ((65536 : Int) < (es.length : Int)) = true := decide_eq_true (by omega)
    go_enter Try.func44, Try.ntmps44
    go_wp2
    go_ret
    exact ⟨rfl, by go_grown⟩
  have h3' : decide ((65536 : Int) < (es.length : Int)) = false := decide_eq_false (by omega)
  go_enter Try.func44, Try.ntmps44
  go_wp2
  generalize hW : w.alloc (Obj.cells #[Value.int IntKind.i64 n, Value.slice A es.length c] 25) = W
  have hbW : Below w.heap.size w W := by rw [← hW]; go_grown
  have hr1 := hr.below hbW
  have hg0 : W.cell? ⟨w.heap.size, 0, none⟩ = some (.int .i64 n) := by rw [← hW]; simp [go_sem]
  have hg1 : W.cell? ⟨w.heap.size, 1, none⟩ = some (.slice A es.length c) := by rw [← hW]; simp [go_sem]
  have hgW : w.heap.size < W.heap.size := by rw [← hW]; simp
  clear hW hr
  go_loopw [3] (fun i wr => ∃ k : Nat, k ≤ es.length ∧ i = .int .i64 k ∧ Hid (∀ j, j < k → okAt n es j = true) ∧ Below W.heap.size W wr) (fun i _ => es.length - (intOf i).toNat)
  case atStart => exact ⟨0, Nat.zero_le _, rfl, fun j hj => by omega, Below.refl _ _⟩
  case round =>
    obtain ⟨k, hk, rfl, hok, hb⟩ := hrel
    have hg0' := (hb.cell (p := ⟨w.heap.size, 0, none⟩) hgW).trans hg0
    have hg1' := (hb.cell (p := ⟨w.heap.size, 1, none⟩) hgW).trans hg1
    have hfin : ∀ w', Below W.heap.size wr w' → Below w.heap.size w w' := fun w' h' => hbW.trans ((hb.trans h').mono hbW.size)
    have hWr : W.heap.size ≤ wr.heap.size := hb.size
    have hgr : w.heap.size < wr.heap.size := Nat.lt_of_lt_of_le hgW hb.size
    by_cases hlt : k < es.length
    · obtain ⟨⟨x, y⟩, hxy⟩ : ∃ e, es[k]? = some e := ⟨es[k], by simp [hlt]⟩
      obtain ⟨b, o, rfl, hbl, e1, e2⟩ := (hr1.below hb).pair' k _ hxy
      have HXY := Lib.hid hxy
      clear hxy
      by_cases k1 : x < 0
      · go_wp2_with fail
        go_ret
        refine ⟨?_, hfin _ (by (repeat (first | with_reducible exact Below.refl _ _ | with_reducible assumption | with_reducible refine below_drewN0 ?_ _ | with_reducible refine Below.drew ?_ | with_reducible refine Below.alloc ?_ ?_ _ | with_reducible refine Below.setCell ?_ ?_ _ | go_size | exact Below.size (by assumption))))⟩
        rw [right_no n es k hlt (okAt_no HXY.out (by omega))]; rfl
      by_cases k2 : y ≤ x
      · go_wp2_with fail
        go_ret
        refine ⟨?_, hfin _ (by (repeat (first | with_reducible exact Below.refl _ _ | with_reducible assumption | with_reducible refine below_drewN0 ?_ _ | with_reducible refine Below.drew ?_ | with_reducible refine Below.alloc ?_ ?_ _ | with_reducible refine Below.setCell ?_ ?_ _ | go_size | exact Below.size (by assumption))))⟩
        rw [right_no n es k hlt (okAt_no HXY.out (by omega))]; rfl
      by_cases k3 : n ≤ y
      · have k3' : decide (n ≤ y) = true := decide_eq_true k3
        go_wp2_with fail
        go_ret
        refine ⟨?_, hfin _ (by (repeat (first | with_reducible exact Below.refl _ _ | with_reducible assumption | with_reducible refine below_drewN0 ?_ _ | with_reducible refine Below.drew ?_ | with_reducible refine Below.alloc ?_ ?_ _ | with_reducible refine Below.setCell ?_ ?_ _ | go_size | exact Below.size (by assumption))))⟩
        rw [right_no n es k hlt (okAt_no HXY.out (by omega))]; rfl
      have k3' : decide (n ≤ y) = false := decide_eq_false k3
      go_wp2_with fail
      by_cases k4 : k = 0
      · subst k4
        (refine wp_quiet_tail 10 (by kernel_rfl) (by kernel_rfl) ?_
         simp only [List.take_succ_cons, List.take_zero, List.drop_succ_cons, List.drop_zero]
         repeat (go_big_quiet_step (fail))
         refine wpQuiet_nil ?_
         intro _ hw'
         obtain ⟨nq, hw''⟩ := hw'
         subst hw'')
        go_wp2_with fail
        go_roundw
        case rel => exact ⟨1, by omega, rfl, Lib.hid (one_ok (p := fun j => okAt n es j = true) (okAt_zero (n := n) HXY.out (by omega) (by omega) (by omega))), hb.trans (by (repeat (first | with_reducible exact Below.refl _ _ | with_reducible assumption | with_reducible refine below_drewN0 ?_ _ | with_reducible refine Below.drew ?_ | with_reducible refine Below.alloc ?_ ?_ _ | with_reducible refine Below.setCell ?_ ?_ _ | go_size | exact Below.size (by assumption))))⟩
        case measure => simp [intOf]; omega
      obtain ⟨j, rfl⟩ : ∃ j, k = j + 1 := ⟨k - 1, by omega⟩
      obtain ⟨⟨x', y'⟩, hxy'⟩ : ∃ e, es[j]? = some e := ⟨es[j], by simp⟩
      obtain ⟨b', o', hbo, hbl', e1', e2'⟩ := (hr1.below hb).pair' j _ hxy'
      have HXY' := Lib.hid hxy'
      clear hxy'
      obtain ⟨rfl, rfl⟩ : b' = b ∧ o' = o := by simpa using hbo.symm
      clear hbo
      have HS := Lib.hid (okAt_succ (n := n) HXY.out HXY'.out (by omega) (by omega) (by omega))
      have HA := fun W => aheadE x' y' x y W
      rw [ahead_cmp] at HA
      generalize decide (cmpE x' y' x y < 0) = cp at HS HA
      cases cp with
      | false =>
        (refine wp_quiet_tail 10 (by kernel_rfl) (by kernel_rfl) ?_
         simp only [List.take_succ_cons, List.take_zero, List.drop_succ_cons, List.drop_zero]
         repeat (go_big_quiet_step (fail))
         refine wpQuiet_nil ?_
         intro _ hw'
         obtain ⟨nq, hw''⟩ := hw'
         subst hw'')
        go_wp2_with (go_at_call 103; refine (HA _).mono ?_; rintro e w1 ⟨rfl, hb1⟩)
        go_ret
        refine ⟨?_, hfin _ ?_⟩
        · rw [right_no n es (j + 1) hlt HS.out]; rfl
        · exact Below.trans (by (repeat (first | with_reducible exact Below.refl _ _ | with_reducible assumption | with_reducible refine below_drewN0 ?_ _ | with_reducible refine Below.drew ?_ | with_reducible refine Below.alloc ?_ ?_ _ | with_reducible refine Below.setCell ?_ ?_ _ | go_size | exact Below.size (by assumption)))) (hb1.mono (by simp; omega))
      | true =>
        (refine wp_quiet_tail 10 (by kernel_rfl) (by kernel_rfl) ?_
         simp only [List.take_succ_cons, List.take_zero, List.drop_succ_cons, List.drop_zero]
         repeat (go_big_quiet_step (fail))
         refine wpQuiet_nil ?_
         intro _ hw'
         obtain ⟨nq, hw''⟩ := hw'
         subst hw'')
        go_wp2_with (go_at_call 103; refine (HA _).mono ?_; rintro e w1 ⟨rfl, hb1⟩)
        go_roundw
        case rel => exact ⟨j + 1 + 1, by omega, by go_num, Lib.hid (succ_ok (p := fun j => okAt n es j = true) hok.out HS.out), hb.trans (Below.trans (by (repeat (first | with_reducible exact Below.refl _ _ | with_reducible assumption | with_reducible refine below_drewN0 ?_ _ | with_reducible refine Below.drew ?_ | with_reducible refine Below.alloc ?_ ?_ _ | with_reducible refine Below.setCell ?_ ?_ _ | go_size | exact Below.size (by assumption)))) (hb1.mono (by simp; omega)))⟩
        case measure => simp [intOf]; omega
    · go_wp2_with fail
      go_ret
      exact ⟨by rw [right_yes n es h1 h2 (by omega) (fun j hj => hok.out j (by omega))]; rfl, hfin _ (Below.refl _ _)⟩

theorem turned_any (a b : Int) (w : World) :
    Calls Try.prog 115 #[.int .i64 a, .int .i64 b] w fun e w' => e = .returned (.agg #[.int .i64 (min a b), .int .i64 (max a b)]) ∧ Below w.heap.size w w' := by
  by_cases h : b < a
  · have h1 : min a b = b := by omega
    have h2 : max a b = a := by omega
    rw [h1, h2]; clear h1 h2
    go_enter Try.func115, Try.ntmps115
    go_wp2
    go_returns
    exact ⟨rfl, by (repeat (first | with_reducible exact Below.refl _ _ | with_reducible assumption | with_reducible refine below_drewN0 ?_ _ | with_reducible refine Below.drew ?_ | with_reducible refine Below.alloc ?_ ?_ _ | with_reducible refine Below.setCell ?_ ?_ _ | go_size | exact Below.size (by assumption)))⟩
  · have h1 : min a b = a := by omega
    have h2 : max a b = b := by omega
    rw [h1, h2]; clear h1 h2
    go_enter Try.func115, Try.ntmps115
    go_wp2
    go_returns
    exact ⟨rfl, by (repeat (first | with_reducible exact Below.refl _ _ | with_reducible assumption | with_reducible refine below_drewN0 ?_ _ | with_reducible refine Below.drew ?_ | with_reducible refine Below.alloc ?_ ?_ _ | with_reducible refine Below.setCell ?_ ?_ _ | go_size | exact Below.size (by assumption)))⟩

set_option maxHeartbeats 1000000 in
theorem refIndex (n a b : Int) (es : List (Int × Int)) (A : Option Addr) (c : Nat) (w : World) (hr : Reads w A (pcells es)) (hc : es.length ≤ c) (hm : es.length ≤ 4611686018427387903) :
    Calls Try.prog 70 #[.agg #[.int .i64 n, .slice A es.length c], .int .i64 a, .int .i64 b] w fun e w' => e = .returned (.int .i64 (indexB n es a b)) ∧ Below w.heap.size w w' := by
  have HRt := fun W hR => refRight n es A c W hR hc hm
  unfold indexB
  generalize hrb : rightB n es = rb at HRt ⊢
  cases rb with
  | false =>
    rw [if_neg (by simp)]
    go_enter Try.func70, Try.ntmps70
    go_wp2_with (go_at_call 44; refine (HRt _ ?_).mono ?_; exact hr.below (by (repeat (first | with_reducible exact Below.refl _ _ | with_reducible assumption | with_reducible refine below_drewN0 ?_ _ | with_reducible refine Below.drew ?_ | with_reducible refine Below.alloc ?_ ?_ _ | with_reducible refine Below.setCell ?_ ?_ _ | go_size | exact Below.size (by assumption)))); rintro e w1 ⟨rfl, hb1⟩)
    go_ret
    exact ⟨rfl, Below.trans (by (repeat (first | with_reducible exact Below.refl _ _ | with_reducible assumption | with_reducible refine below_drewN0 ?_ _ | with_reducible refine Below.drew ?_ | with_reducible refine Below.alloc ?_ ?_ _ | with_reducible refine Below.setCell ?_ ?_ _ | go_size | exact Below.size (by assumption)))) (hb1.mono (by simp))⟩
  | true =>
    rw [if_pos rfl]
    clear hrb
    have HT := fun W => turned_any a b W
    generalize min a b = x at HT ⊢
    generalize max a b = y at HT ⊢
    go_enter Try.func70, Try.ntmps70
    go_wp2_with (first | (go_at_call 44; refine (HRt _ ?_).mono ?_; exact hr.below (by (repeat (first | with_reducible exact Below.refl _ _ | with_reducible assumption | with_reducible refine below_drewN0 ?_ _ | with_reducible refine Below.drew ?_ | with_reducible refine Below.alloc ?_ ?_ _ | with_reducible refine Below.setCell ?_ ?_ _ | go_size | exact Below.size (by assumption)))); rintro e w1 ⟨rfl, hb1⟩) | (go_at_call 115; refine (HT _).mono ?_; rintro e w2 ⟨rfl, hb2⟩))
    have hB : Below (w.alloc (Obj.cells #[Value.int IntKind.i64 n, Value.slice A es.length c] 25)).heap.size (w.alloc (Obj.cells #[Value.int IntKind.i64 n, Value.slice A es.length c] 25)) (w2.alloc (Obj.cells #[Value.int IntKind.i64 x, Value.int IntKind.i64 y] 49)) :=
      (hb1.trans (hb2.mono hb1.size)).alloc (Nat.le_trans hb1.size hb2.size) _
    have hg1 := (hB.cell (p := ⟨w.heap.size, 1, none⟩) (by simp)).trans (show _ = some (Value.slice A es.length c) by simp [go_sem])
    have hr1 := hr.below (w1 := w2.alloc (Obj.cells #[Value.int IntKind.i64 x, Value.int IntKind.i64 y] 49)) (Below.trans (by (repeat (first | with_reducible exact Below.refl _ _ | with_reducible assumption | with_reducible refine below_drewN0 ?_ _ | with_reducible refine Below.drew ?_ | with_reducible refine Below.alloc ?_ ?_ _ | with_reducible refine Below.setCell ?_ ?_ _ | go_size | exact Below.size (by assumption)))) (hB.mono (by simp)))
    have hbW : Below w.heap.size w (w2.alloc (Obj.cells #[Value.int IntKind.i64 x, Value.int IntKind.i64 y] 49)) := Below.trans (by (repeat (first | with_reducible exact Below.refl _ _ | with_reducible assumption | with_reducible refine below_drewN0 ?_ _ | with_reducible refine Below.drew ?_ | with_reducible refine Below.alloc ?_ ?_ _ | with_reducible refine Below.setCell ?_ ?_ _ | go_size | exact Below.size (by assumption)))) (hB.mono (by simp))
    have hx0 : (w2.alloc (Obj.cells #[Value.int IntKind.i64 x, Value.int IntKind.i64 y] 49)).cell? ⟨w2.heap.size, 0, none⟩ = some (.int .i64 x) := by simp [go_sem]
    have hx1 : (w2.alloc (Obj.cells #[Value.int IntKind.i64 x, Value.int IntKind.i64 y] 49)).cell? ⟨w2.heap.size, 1, none⟩ = some (.int .i64 y) := by simp [go_sem]
    have hs2 : w.heap.size < w2.heap.size := by have := hb1.size; have := hb2.size; simp at *; omega
    have hs3 : w2.heap.size < (w2.alloc (Obj.cells #[Value.int IntKind.i64 x, Value.int IntKind.i64 y] 49)).heap.size := by simp
    clear hb1 hb2 hB hr HRt HT
    generalize w2.alloc (Obj.cells #[Value.int IntKind.i64 x, Value.int IntKind.i64 y] 49) = W at *
    generalize w2.heap.size = g2 at *
    go_loopw [8] (fun i wr => ∃ k : Nat, k ≤ es.length ∧ i = .int .i64 k ∧ Hid (∀ j, j < k → es[j]? ≠ some (x, y)) ∧ Below W.heap.size W wr) (fun i _ => es.length - (intOf i).toNat)
    case atStart => exact ⟨0, Nat.zero_le _, rfl, fun j hj => by omega, Below.refl _ _⟩
    case round =>
      obtain ⟨k, hk, rfl, hok, hb⟩ := hrel
      have hg1' := (hb.cell (p := ⟨w.heap.size, 1, none⟩) (by simp; omega)).trans hg1
      have hx0' := (hb.cell (p := ⟨g2, 0, none⟩) hs3).trans hx0
      have hx1' := (hb.cell (p := ⟨g2, 1, none⟩) hs3).trans hx1
      have hfin : ∀ w', Below W.heap.size wr w' → Below w.heap.size w w' := fun w' h' => hbW.trans ((hb.trans h').mono hbW.size)
      have hWr : W.heap.size ≤ wr.heap.size := hb.size
      by_cases hlt : k < es.length
      · obtain ⟨⟨x', y'⟩, hxy⟩ : ∃ e, es[k]? = some e := ⟨es[k], by simp [hlt]⟩
        obtain ⟨b, o, rfl, hbl, e1, e2⟩ := (hr1.below hb).pair' k _ hxy
        have HXY := Lib.hid hxy
        clear hxy hg1 hx0 hx1 hr1
        by_cases he : x' = x
        · subst he
          by_cases he2 : y' = y
          · subst he2
            go_wp2_with fail
            go_quiet (fail)
            go_wp2_with fail
            go_ret
            exact ⟨by rw [findE_yes es _ k HXY.out hok.out]; rfl, hfin _ (by (repeat (first | with_reducible exact Below.refl _ _ | with_reducible assumption | with_reducible refine below_drewN0 ?_ _ | with_reducible refine Below.drew ?_ | with_reducible refine Below.alloc ?_ ?_ _ | with_reducible refine Below.setCell ?_ ?_ _ | go_size | exact Below.size (by assumption))))⟩
          · have he' : (y' == y) = false := by simpa using he2
            go_wp2_with fail
            go_quiet (fail)
            go_wp2_with fail
            go_roundw
            case rel => exact ⟨k + 1, by omega, by go_num, Lib.hid (succ_ok (p := fun j => es[j]? ≠ some (x', y)) hok.out (by rw [HXY.out]; simpa using he2)), hb.trans (by (repeat (first | with_reducible exact Below.refl _ _ | with_reducible assumption | with_reducible refine below_drewN0 ?_ _ | with_reducible refine Below.drew ?_ | with_reducible refine Below.alloc ?_ ?_ _ | with_reducible refine Below.setCell ?_ ?_ _ | go_size | exact Below.size (by assumption))))⟩
            case measure => simp [intOf]; omega
        · have he' : (x' == x) = false := by simpa using he
          go_wp2_with fail
          go_quiet (fail)
          go_wp2_with fail
          go_roundw
          case rel => exact ⟨k + 1, by omega, by go_num, Lib.hid (succ_ok (p := fun j => es[j]? ≠ some (x, y)) hok.out (by rw [HXY.out]; simp [he])), hb.trans (by (repeat (first | with_reducible exact Below.refl _ _ | with_reducible assumption | with_reducible refine below_drewN0 ?_ _ | with_reducible refine Below.drew ?_ | with_reducible refine Below.alloc ?_ ?_ _ | with_reducible refine Below.setCell ?_ ?_ _ | go_size | exact Below.size (by assumption))))⟩
          case measure => simp [intOf]; omega
      · go_wp2_with fail
        go_ret
        exact ⟨by rw [findE_no es _ (fun j hj => hok.out j (by omega))]; rfl, hfin _ (Below.refl _ _)⟩

theorem refHas (n a b : Int) (es : List (Int × Int)) (A : Option Addr) (c : Nat) (w : World) (hr : Reads w A (pcells es)) (hc : es.length ≤ c) (hm : es.length ≤ 4611686018427387903) :
    Calls Try.prog 83 #[.agg #[.int .i64 n, .slice A es.length c], .int .i64 a, .int .i64 b] w fun e w' => e = .returned (.bool (hasB n es a b)) ∧ Below w.heap.size w w' := by
  have HI := fun W hR => refIndex n a b es A c W hR hc hm
  unfold hasB
  generalize indexB n es a b = r at HI ⊢
  go_enter Try.func83, Try.ntmps83
  go_wp2_with (go_at_call 70; refine (HI _ ?_).mono ?_; exact hr.below (by (repeat (first | with_reducible exact Below.refl _ _ | with_reducible assumption | with_reducible refine below_drewN0 ?_ _ | with_reducible refine Below.drew ?_ | with_reducible refine Below.alloc ?_ ?_ _ | with_reducible refine Below.setCell ?_ ?_ _ | go_size | exact Below.size (by assumption)))); rintro e w1 ⟨rfl, hb1⟩)
  go_ret
  exact ⟨rfl, Below.trans (by (repeat (first | with_reducible exact Below.refl _ _ | with_reducible assumption | with_reducible refine below_drewN0 ?_ _ | with_reducible refine Below.drew ?_ | with_reducible refine Below.alloc ?_ ?_ _ | with_reducible refine Below.setCell ?_ ?_ _ | go_size | exact Below.size (by assumption)))) (hb1.mono (by simp))⟩

theorem refIs_any (n a : Int) (A : Option Addr) (l c : Nat) (w : World) :
    Calls Try.prog 82 #[.agg #[.int .i64 n, .slice A l c], .int .i64 a] w fun e w' => e = .returned (.bool (decide (0 ≤ a ∧ a < n))) ∧ Below w.heap.size w w' := by
  by_cases h : 0 ≤ a
  · by_cases h2 : a < n
    · rw [show decide (0 ≤ a ∧ a < n) = true by simp [h, h2]]
      go_enter Try.func82, Try.ntmps82
      go_wp2
      go_ret
      exact ⟨by simp, by (repeat (first | with_reducible exact Below.refl _ _ | with_reducible assumption | with_reducible refine below_drewN0 ?_ _ | with_reducible refine Below.drew ?_ | with_reducible refine Below.alloc ?_ ?_ _ | with_reducible refine Below.setCell ?_ ?_ _ | go_size | exact Below.size (by assumption)))⟩
    · rw [show decide (0 ≤ a ∧ a < n) = false by simp [h, h2]]
      go_enter Try.func82, Try.ntmps82
      go_wp2
      go_ret
      exact ⟨by simp; try omega, by (repeat (first | with_reducible exact Below.refl _ _ | with_reducible assumption | with_reducible refine below_drewN0 ?_ _ | with_reducible refine Below.drew ?_ | with_reducible refine Below.alloc ?_ ?_ _ | with_reducible refine Below.setCell ?_ ?_ _ | go_size | exact Below.size (by assumption)))⟩
  · rw [show decide (0 ≤ a ∧ a < n) = false by simp [h]]
    go_enter Try.func82, Try.ntmps82
    go_wp2
    go_ret
    exact ⟨by simp, by (repeat (first | with_reducible exact Below.refl _ _ | with_reducible assumption | with_reducible refine below_drewN0 ?_ _ | with_reducible refine Below.drew ?_ | with_reducible refine Below.alloc ?_ ?_ _ | with_reducible refine Below.setCell ?_ ?_ _ | go_size | exact Below.size (by assumption)))⟩
end Go.Proofs.Ytgddfmfiiodgbaa
