/- Walks of graph's edge, there, the binary search, place, Index, Has. -/
import Derived.Test.YtglhdoibglafbaaA2
namespace Go.Proofs.Ytglhdoibglafbaa
open Go Go.RowKit
set_option maxRecDepth 100000
set_option linter.unusedVariables false

theorem edge_any (a b : Int) (w : World) :
    Calls Try.prog 65 #[.int .i64 a, .int .i64 b] w fun e w' => e = .returned (.agg #[.int .i64 (min a b), .int .i64 (max a b)]) ∧ Below w.heap.size w w' := by
  go_enter Try.func65, Try.ntmps65
  go_wp2 <;> go_returns <;> exact ⟨by simp; omega, by (repeat (first | with_reducible exact Below.refl _ _ | with_reducible assumption | with_reducible refine below_drewN0 ?_ _ | with_reducible refine Below.drew ?_ | with_reducible refine Below.alloc ?_ ?_ _ | with_reducible refine Below.setCell ?_ ?_ _ | go_size))⟩

theorem there_any (n a b : Int) (w : World) :
    Calls Try.prog 66 #[.int .i64 n, .int .i64 a, .int .i64 b] w fun e w' => e = .returned (.bool (decide (0 ≤ min a b) && decide (max a b < n))) ∧ w = w' := by
  generalize hx : min a b = x
  generalize hy : max a b = y
  by_cases h : 0 ≤ x <;> by_cases h2 : y < n <;>
  (go_enter Try.func66, Try.ntmps66
   go_wp2 <;> go_ret <;> simp_all <;> omega)

set_option maxHeartbeats 2000000 in
theorem bs_any (es : List (Int × Int)) (A : Option Addr) (c : Nat) (w : World) (hr : Reads w A (pcells es)) (hc : es.length ≤ c) (hm : es.length ≤ 4611686018427387903) (x y : Int) (p : Nat) (hp : p ≤ es.length)
    (h1 : ∀ j e, j < p → es[j]? = some e → cmpE e.1 e.2 x y < 0) (h2 : ∀ j e, p ≤ j → es[j]? = some e → 0 ≤ cmpE e.1 e.2 x y)
    (fnd : Bool) (h3 : es[p]? = none → fnd = false) (h4 : ∀ e, es[p]? = some e → fnd = decide (cmpE e.1 e.2 x y = 0)) :
    Calls Try.prog 98 #[.slice A es.length c, .agg #[.int .i64 x, .int .i64 y], .func (.func 68) #[.agg #[]] #[]] w fun e w' =>
      e = .returned (.tuple #[.int .i64 p, .bool fnd]) ∧ Below w.heap.size w w' := by
  have H1 := Lib.hid h1
  have H2 := Lib.hid h2
  have H3 := Lib.hid h3
  have H4 := Lib.hid h4
  clear h1 h2 h3 h4
  have HC := fun a b W => compareE a b x y W
  go_enter Try.func98, Try.ntmps98
  go_wp2
  generalize hW : w.alloc (Obj.cells #[Value.int IntKind.i64 x, Value.int IntKind.i64 y] 28) = W
  have hbW : Below w.heap.size w W := by rw [← hW]; go_grown
  have hr1 := hr.below hbW
  have hx0 : W.cell? ⟨w.heap.size, 0, none⟩ = some (.int .i64 x) := by rw [← hW]; simp [go_sem]
  have hx1 : W.cell? ⟨w.heap.size, 1, none⟩ = some (.int .i64 y) := by rw [← hW]; simp [go_sem]
  have hgW : w.heap.size < W.heap.size := by rw [← hW]; simp
  clear hW hr
  generalize hg : w.heap.size = g at *
  go_loopw [9, 10] (fun i j wr => ∃ lo hi : Nat, i = .int .i64 lo ∧ j = .int .i64 hi ∧ lo ≤ p ∧ p ≤ hi ∧ hi ≤ es.length ∧ Below W.heap.size W wr) (fun i j _ => (intOf j - intOf i).toNat)
  case atStart => exact ⟨0, es.length, rfl, rfl, Nat.zero_le _, hp, Nat.le_refl _, Below.refl _ _⟩
  case round =>
    obtain ⟨lo, hi, rfl, rfl, hlp, hph, hhn, hb⟩ := hrel
    have hx0' := (hb.cell (p := ⟨g, 0, none⟩) hgW).trans hx0
    have hx1' := (hb.cell (p := ⟨g, 1, none⟩) hgW).trans hx1
    have hWr : W.heap.size ≤ wr.heap.size := hb.size
    have hfin : ∀ w', Below W.heap.size wr w' → Below w.heap.size w w' := fun w' h' => by rw [hg]; exact hbW.trans ((hb.trans h').mono (by omega))
    by_cases hlt : lo < hi
    · obtain ⟨h, hh, k1, k2⟩ : ∃ h : Nat, ((lo : Int) + hi) / 2 = h ∧ lo ≤ h ∧ h < hi := ⟨(lo + hi) / 2, by omega, by omega, by omega⟩
      obtain ⟨⟨x', y'⟩, hxy⟩ : ∃ e, es[h]? = some e := ⟨es[h], by simp⟩
      obtain ⟨b, o, rfl, hbl, e1, e2⟩ := (hr1.below hb).pair' h _ hxy
      have HXY := Lib.hid hxy
      clear hxy hx0 hx1 hr1
      have K1 : Hid (p ≤ h → 0 ≤ cmpE x' y' x y) := fun hle => H2.out h _ hle HXY.out
      have K2 : Hid (h < p → cmpE x' y' x y < 0) := fun hle => H1.out h _ hle HXY.out
      have HC1 := fun W => HC x' y' W
      generalize cmpE x' y' x y = cp at K1 K2 HC1
      clear H1 H2 HC HXY
      go_wp2_with fail
      (refine wp_quiet_tail 6 (by kernel_rfl) (by kernel_rfl) ?_
       simp only [List.take_succ_cons, List.take_zero, List.drop_succ_cons, List.drop_zero]
       repeat (go_big_quiet_step (fail))
       refine wpQuiet_nil ?_
       intro _ hw'
       obtain ⟨nq, hw''⟩ := hw'
       subst hw'')
      by_cases hcp : cp < 0
      · go_wp2_with (go_at_call 68; refine (HC1 _).mono ?_; rintro e w1 ⟨rfl, hb1⟩)
        go_roundw
        case rel => exact ⟨h + 1, hi, by go_num, rfl, Nat.lt_of_not_le fun hle => by have := K1.out hle; omega, hph, hhn, hb.trans (Below.trans (by (repeat (first | with_reducible exact Below.refl _ _ | with_reducible assumption | with_reducible refine below_drewN0 ?_ _ | with_reducible refine Below.drew ?_ | with_reducible refine Below.alloc ?_ ?_ _ | with_reducible refine Below.setCell ?_ ?_ _ | go_size))) (hb1.mono (by simp; omega)))⟩
        case measure => simp [intOf]; omega
      · go_wp2_with (go_at_call 68; refine (HC1 _).mono ?_; rintro e w1 ⟨rfl, hb1⟩)
        go_roundw
        case rel => exact ⟨lo, h, rfl, rfl, hlp, Nat.le_of_not_lt fun hle => by have := K2.out hle; omega, by omega, hb.trans (Below.trans (by (repeat (first | with_reducible exact Below.refl _ _ | with_reducible assumption | with_reducible refine below_drewN0 ?_ _ | with_reducible refine Below.drew ?_ | with_reducible refine Below.alloc ?_ ?_ _ | with_reducible refine Below.setCell ?_ ?_ _ | go_size))) (hb1.mono (by simp; omega)))⟩
        case measure => simp [intOf]; omega
    · obtain rfl : lo = p := by omega
      by_cases hend : lo < es.length
      · obtain ⟨⟨x', y'⟩, hxy⟩ : ∃ e, es[lo]? = some e := ⟨es[lo], by simp⟩
        obtain ⟨b, o, rfl, hbl, e1, e2⟩ := (hr1.below hb).pair' lo _ hxy
        have HE := H4.out _ hxy
        dsimp only at HE
        have HXY := Lib.hid hxy
        clear hxy hx0 hx1 hr1
        have HC1 := fun W => HC x' y' W
        generalize cmpE x' y' x y = cp at HE HC1
        have HE := Lib.hid HE
        clear H1 H2 HC HXY
        have HS := Lib.hid (fun (w' : World) (h : Below wr.heap.size wr w') => (⟨(h.cell (p := ⟨g, 0, none⟩) (by simp; omega)).trans hx0', (h.cell (p := ⟨g, 1, none⟩) (by simp; omega)).trans hx1', (h.cell (p := ⟨b, o + lo * 2, none⟩) hbl).trans e1, (h.cell (p := ⟨b, o + lo * 2 + 1, none⟩) hbl).trans e2⟩ : w'.cell? ⟨g, 0, none⟩ = some (.int .i64 x) ∧ w'.cell? ⟨g, 1, none⟩ = some (.int .i64 y) ∧ w'.cell? ⟨b, o + lo * 2, none⟩ = some (.int .i64 x') ∧ w'.cell? ⟨b, o + lo * 2 + 1, none⟩ = some (.int .i64 y')))
        go_wp2_with fail
        go_region_held3 (fun w' => w'.cell? ⟨g, 0, none⟩ = some (.int .i64 x) ∧ w'.cell? ⟨g, 1, none⟩ = some (.int .i64 y) ∧ w'.cell? ⟨b, o + lo * 2, none⟩ = some (.int .i64 x') ∧ w'.cell? ⟨b, o + lo * 2 + 1, none⟩ = some (.int .i64 y')) (first | exact HS.out _ (Below.refl _ _) | exact HS.out _ (Below.trans (by (repeat (first | with_reducible exact Below.refl _ _ | with_reducible assumption | with_reducible refine below_drewN0 ?_ _ | with_reducible refine Below.drew ?_ | with_reducible refine Below.alloc ?_ ?_ _ | with_reducible refine Below.setCell ?_ ?_ _ | go_size))) (hb1.mono (by simp))) | (refine HS.out _ ?_; (repeat (first | with_reducible exact Below.refl _ _ | with_reducible assumption | with_reducible refine below_drewN0 ?_ _ | with_reducible refine Below.drew ?_ | with_reducible refine Below.alloc ?_ ?_ _ | with_reducible refine Below.setCell ?_ ?_ _ | go_size)); done)) (first | (go_at_call 68; refine (HC1 _).mono ?_; rintro e w1 ⟨rfl, hb1⟩))
        go_wp2_with fail
        go_ret2
        exact ⟨by rw [HE.out]; rfl, hfin _ (Below.trans (by (repeat (first | with_reducible exact Below.refl _ _ | with_reducible assumption | with_reducible refine below_drewN0 ?_ _ | with_reducible refine Below.drew ?_ | with_reducible refine Below.alloc ?_ ?_ _ | with_reducible refine Below.setCell ?_ ?_ _ | go_size))) (hb1.mono (by simp; omega)))⟩
      · have HE := H3.out (List.getElem?_eq_none (by omega))
        subst HE
        clear H1 H2 H4 HC hx0 hx1 hr1
        go_wp2_with fail
        go_quiet (fail)
        go_wp2_with fail
        go_ret2
        exact ⟨rfl, hfin _ (by (repeat (first | with_reducible exact Below.refl _ _ | with_reducible assumption | with_reducible refine below_drewN0 ?_ _ | with_reducible refine Below.drew ?_ | with_reducible refine Below.alloc ?_ ?_ _ | with_reducible refine Below.setCell ?_ ?_ _ | go_size)))⟩

end Go.Proofs.Ytglhdoibglafbaa
