/- Walks of bits.Len and SortFunc at edges, over a contract of pdqsort. -/
import Derived.Test.YtglhdoibglafbaaU12
import Derived.Test.YtglhdoibglafbaaU02
import Derived.Test.YtglhdoibglafbaaU03
namespace Go.Proofs.Ytglhdoibglafbaa
open Go Go.RowKit Go.Shelf
set_option maxRecDepth 100000
set_option linter.unusedVariables false
set_option linter.unusedSimpArgs false

theorem len_any (n : Nat) (hn : n < 4611686018427387904) (W : World) : Calls Try.prog 95 #[.int .u64 (n : Int)] W fun e w' => e = .returned (.int .i64 (Sort.bitsLen n : Nat)) ∧ w' = W := by
  have h := Any.bits_Len (SlLaysF0.n15.bits (P := Try.prog) (ρ := npTwo_ren) { npTwo with }) (n : Int) W (by omega) (by omega)
  rwa [Int.toNat_natCast, bitLen_eq _ (by omega)] at h

set_option maxHeartbeats 2000000 in
theorem sortf_of (w0 W : World) (g : Nat) (T : TypeId) (rest : List Value) (d : Array PE) (c : Nat) (hS : SR w0 g T rest d W) (hm : d.size ≤ 1000000)
    (HP : ∀ (lim : Nat), Calls Try.prog 94 #[.slice (some ⟨g, 0, none⟩) d.size c, .int .i64 0, .int .i64 d.size, .int .i64 lim, (Value.func (.func 68) #[.agg #[]] #[])] W fun e w' => e = .returned (.tuple #[]) ∧ ∃ d', Sort.PermIn 0 d.size d d' ∧ Sort.SortedIn ltP 0 d.size d' ∧ SR w0 g T rest d' w') :
    Calls Try.prog 67 #[.slice (some ⟨g, 0, none⟩) d.size c, (Value.func (.func 68) #[.agg #[]] #[])] W fun e w' => e = .returned (.tuple #[]) ∧ ∃ d', Sort.PermIn 0 d.size d d' ∧ Sort.SortedIn ltP 0 d.size d' ∧ SR w0 g T rest d' w' := by
  have hL := len_any d.size (by omega)
  have w2 : IntKind.u64.wrap (d.size : Int) = (d.size : Int) := by rw [IntKind.wrap_u64]; omega
  go_enter Try.func67, Try.ntmps67
  go_wp2_with (first
    | (go_at_call 95; go_loud (refine (hL _).mono ?_; rintro e w1 ⟨rfl, rfl⟩))
    | (go_at_call 94; go_loud (refine (HP _).mono ?_; rintro e w1 ⟨rfl, d', h1, h2, h3⟩)))
  go_end0
  exact ⟨rfl, d', h1, h2, h3⟩
end Go.Proofs.Ytglhdoibglafbaa

/- The walk of graph.Right. -/

namespace Go.Proofs.Ytglhdoibglafbaa
open Go Go.RowKit
set_option maxRecDepth 100000
set_option linter.unusedVariables false
set_option linter.unusedSimpArgs false

set_option maxHeartbeats 2000000 in
theorem right_any (n : Int) (es : List (Int × Int)) (A : Option Addr) (c : Nat) (w : World) (hr : Reads w A (pcells es)) (hc : es.length ≤ c) (hm : es.length ≤ 4611686018427387903) :
    Calls Try.prog 31 #[.agg #[.int .i64 n, .slice A es.length c]] w fun e w' => e = .returned (.bool (rightB n es)) ∧ Below w.heap.size w w' := by
  by_cases h1 : n < 0
  · have HR : rightB n es = false := by simp [rightB]; omega
    rw [HR]; clear HR
    go_enter Try.func31, Try.ntmps31
    go_wp2
    go_ret
    exact ⟨rfl, by go_grown⟩
  by_cases h2 : 4096 < n
  · have HR : rightB n es = false := by simp [rightB]; omega
    rw [HR]; clear HR
    go_enter Try.func31, Try.ntmps31
    go_wp2
    go_ret
    exact ⟨rfl, by go_grown⟩
  by_cases h3 : 65536 < es.length
  · have HR : rightB n es = false := by simp [rightB]; omega
    rw [HR]; clear HR
    have h3' : decide ((65536 : Int) < (es.length : Int)) = true := decide_eq_true (by omega)
    go_enter Try.func31, Try.ntmps31
    go_wp2
    go_ret
    exact ⟨rfl, by go_grown⟩
  have h3' : decide ((65536 : Int) < (es.length : Int)) = false := decide_eq_false (by omega)
  go_enter Try.func31, Try.ntmps31
  go_wp2
  generalize hW : w.alloc (Obj.cells #[Value.int IntKind.i64 n, Value.slice A es.length c] 25) = W
  have hbW : Below w.heap.size w W := by rw [← hW]; go_grown
  have hr1 := hr.below hbW
  have hg0 : W.cell? ⟨w.heap.size, 0, none⟩ = some (.int .i64 n) := by rw [← hW]; simp [go_sem]
  have hg1 : W.cell? ⟨w.heap.size, 1, none⟩ = some (.slice A es.length c) := by rw [← hW]; simp [go_sem]
  have hgW : w.heap.size < W.heap.size := by rw [← hW]; simp
  clear hW hr
  go_loopw [25] (fun i wr => ∃ k : Nat, k ≤ es.length ∧ i = .int .i64 k ∧ Hid (∀ j, j < k → okAt n es j = true) ∧ Below W.heap.size W wr) (fun i _ => es.length - (intOf i).toNat)
  case atStart => exact ⟨0, Nat.zero_le _, rfl, fun j hj => by omega, Below.refl _ _⟩
  case round =>
    obtain ⟨k, hk, rfl, hok, hb⟩ := hrel
    have hg0' := (hb.cell (p := ⟨w.heap.size, 0, none⟩) hgW).trans hg0
    have hg1' := (hb.cell (p := ⟨w.heap.size, 1, none⟩) hgW).trans hg1
    have hfin : ∀ w', Below W.heap.size wr w' → Below w.heap.size w w' := fun w' h' => hbW.trans ((hb.trans h').mono hbW.size)
    have hWr : W.heap.size ≤ wr.heap.size := hb.size
    have hgr : w.heap.size < wr.heap.size := Nat.lt_of_lt_of_le hgW hb.size
    by_cases hlt : k < es.length
    · obtain ⟨⟨x, y⟩, hxy⟩ : ∃ e, es[k]? = some e := ⟨es[k], by simp [hlt]⟩
      obtain ⟨b, o, rfl, hbl, e1, e2⟩ := (hr1.below hb).pair' k _ hxy
      have HXY := Lib.hid hxy
      clear hxy
      go_wp2_with fail
      by_cases k1 : x < 0
      · (refine wp_quiet_tail 29 (by kernel_rfl) (by kernel_rfl) ?_
         simp only [List.take_succ_cons, List.take_zero, List.drop_succ_cons, List.drop_zero]
         repeat (go_big_quiet_step (fail))
         refine wpQuiet_nil ?_
         intro _ hw'
         obtain ⟨nq, hw''⟩ := hw'
         subst hw'')
        go_wp2_with fail
        go_ret
        refine ⟨?_, hfin _ (by (repeat (first | with_reducible exact Below.refl _ _ | with_reducible assumption | with_reducible refine below_drewN0 ?_ _ | with_reducible refine Below.drew ?_ | with_reducible refine Below.alloc ?_ ?_ _ | with_reducible refine Below.setCell ?_ ?_ _ | go_size | exact Below.size (by assumption))))⟩
        rw [right_no n es k hlt (okAt_no HXY.out (by omega))]; rfl
      by_cases k2 : y ≤ x
      · (refine wp_quiet_tail 29 (by kernel_rfl) (by kernel_rfl) ?_
         simp only [List.take_succ_cons, List.take_zero, List.drop_succ_cons, List.drop_zero]
         repeat (go_big_quiet_step (fail))
         refine wpQuiet_nil ?_
         intro _ hw'
         obtain ⟨nq, hw''⟩ := hw'
         subst hw'')
        go_wp2_with fail
        go_ret
        refine ⟨?_, hfin _ (by (repeat (first | with_reducible exact Below.refl _ _ | with_reducible assumption | with_reducible refine below_drewN0 ?_ _ | with_reducible refine Below.drew ?_ | with_reducible refine Below.alloc ?_ ?_ _ | with_reducible refine Below.setCell ?_ ?_ _ | go_size | exact Below.size (by assumption))))⟩
        rw [right_no n es k hlt (okAt_no HXY.out (by omega))]; rfl
      by_cases k3 : n ≤ y
      · (refine wp_quiet_tail 29 (by kernel_rfl) (by kernel_rfl) ?_
         simp only [List.take_succ_cons, List.take_zero, List.drop_succ_cons, List.drop_zero]
         repeat (go_big_quiet_step (fail))
         refine wpQuiet_nil ?_
         intro _ hw'
         obtain ⟨nq, hw''⟩ := hw'
         subst hw'')
        go_wp2_with fail
        go_ret
        refine ⟨?_, hfin _ (by (repeat (first | with_reducible exact Below.refl _ _ | with_reducible assumption | with_reducible refine below_drewN0 ?_ _ | with_reducible refine Below.drew ?_ | with_reducible refine Below.alloc ?_ ?_ _ | with_reducible refine Below.setCell ?_ ?_ _ | go_size | exact Below.size (by assumption))))⟩
        rw [right_no n es k hlt (okAt_no HXY.out (by omega))]; rfl
      by_cases k4 : k = 0
      · subst k4
        (refine wp_quiet_tail 29 (by kernel_rfl) (by kernel_rfl) ?_
         simp only [List.take_succ_cons, List.take_zero, List.drop_succ_cons, List.drop_zero]
         repeat (go_big_quiet_step (fail))
         refine wpQuiet_nil ?_
         intro _ hw'
         obtain ⟨nq, hw''⟩ := hw'
         subst hw'')
        go_wp2_with fail
        go_roundw
        case rel => exact ⟨1, by omega, rfl, Lib.hid (one_ok (p := fun j => okAt n es j = true) (okAt_zero (n := n) HXY.out (by omega) (by omega) (by omega))), hb.trans (by (repeat (first | with_reducible exact Below.refl _ _ | with_reducible assumption | with_reducible refine below_drewN0 ?_ _ | with_reducible refine Below.drew ?_ | with_reducible refine Below.alloc ?_ ?_ _ | with_reducible refine Below.setCell ?_ ?_ _ | go_size | exact Below.size (by assumption))))⟩
        case measure => simp [intOf]; omega
      obtain ⟨j, rfl⟩ : ∃ j, k = j + 1 := ⟨k - 1, by omega⟩
      obtain ⟨⟨x', y'⟩, hxy'⟩ : ∃ e, es[j]? = some e := ⟨es[j], by simp⟩
      obtain ⟨b', o', hbo, hbl', e1', e2'⟩ := (hr1.below hb).pair' j _ hxy'
      have HXY' := Lib.hid hxy'
      clear hxy'
      obtain ⟨rfl, rfl⟩ : b' = b ∧ o' = o := by simpa using hbo.symm
      clear hbo
      have HS := Lib.hid (okAt_succ (n := n) HXY.out HXY'.out (by omega) (by omega) (by omega))
      generalize hcp : cmpE x' y' x y = cp at HS
      (refine wp_quiet_tail 29 (by kernel_rfl) (by kernel_rfl) ?_
       simp only [List.take_succ_cons, List.take_zero, List.drop_succ_cons, List.drop_zero]
       repeat (go_big_quiet_step (fail))
       refine wpQuiet_nil ?_
       intro _ hw'
       obtain ⟨nq, hw''⟩ := hw'
       subst hw'')
      go_wp2_with (go_at_call 68; refine (compareE x' y' x y _).mono ?_; rw [hcp]; rintro e w1 ⟨rfl, hb1⟩)
      · have hcp0 : 0 ≤ cp := by assumption
        go_ret
        refine ⟨?_, hfin _ ?_⟩
        · rw [right_no n es (j + 1) hlt (by rw [HS.out]; simpa using hcp0)]; rfl
        · exact Below.trans (by (repeat (first | with_reducible exact Below.refl _ _ | with_reducible assumption | with_reducible refine below_drewN0 ?_ _ | with_reducible refine Below.drew ?_ | with_reducible refine Below.alloc ?_ ?_ _ | with_reducible refine Below.setCell ?_ ?_ _ | go_size | exact Below.size (by assumption)))) (hb1.mono (by simp; omega))
      · have hcp0 : cp < 0 := by assumption
        go_roundw
        case rel => exact ⟨j + 1 + 1, by omega, by go_num, Lib.hid (succ_ok (p := fun j => okAt n es j = true) hok.out (by rw [HS.out]; simpa using hcp0)), hb.trans (Below.trans (by (repeat (first | with_reducible exact Below.refl _ _ | with_reducible assumption | with_reducible refine below_drewN0 ?_ _ | with_reducible refine Below.drew ?_ | with_reducible refine Below.alloc ?_ ?_ _ | with_reducible refine Below.setCell ?_ ?_ _ | go_size | exact Below.size (by assumption)))) (hb1.mono (by simp; omega)))⟩
        case measure => simp [intOf]; omega
    · go_wp2_with fail
      go_ret
      exact ⟨by rw [right_yes n es h1 h2 (by omega) (fun j hj => hok.out j (by omega))]; rfl, hfin _ (Below.refl _ _)⟩

end Go.Proofs.Ytglhdoibglafbaa

/- Walks of graph's edge, there, the binary search, place, Index, Has. -/
namespace Go.Proofs.Ytglhdoibglafbaa
open Go Go.RowKit
set_option maxRecDepth 100000
set_option linter.unusedVariables false
set_option linter.unusedSimpArgs false

theorem edge_any (a b : Int) (w : World) :
    Calls Try.prog 65 #[.int .i64 a, .int .i64 b] w fun e w' => e = .returned (.agg #[.int .i64 (min a b), .int .i64 (max a b)]) ∧ Below w.heap.size w w' := by
  go_enter Try.func65, Try.ntmps65
  go_wp2 <;> go_returns <;> exact ⟨by first | (simp; done) | (simp; omega), by (repeat (first | with_reducible exact Below.refl _ _ | with_reducible assumption | with_reducible refine below_drewN0 ?_ _ | with_reducible refine Below.drew ?_ | with_reducible refine Below.alloc ?_ ?_ _ | with_reducible refine Below.setCell ?_ ?_ _ | go_size | exact Below.size (by assumption)))⟩

theorem there_any (n a b : Int) (w : World) :
    Calls Try.prog 66 #[.int .i64 n, .int .i64 a, .int .i64 b] w fun e w' => e = .returned (.bool (decide (0 ≤ min a b) && decide (max a b < n))) ∧ w = w' := by
  generalize hx : min a b = x
  generalize hy : max a b = y
  by_cases h : 0 ≤ x <;> by_cases h2 : y < n <;>
  (go_enter Try.func66, Try.ntmps66
   go_wp2 <;> go_ret <;> simp_all <;> omega)

set_option maxHeartbeats 2000000 in
theorem bs_any (es : List (Int × Int)) (A : Option Addr) (c : Nat) (w : World) (hr : Reads w A (pcells es)) (hc : es.length ≤ c) (hm : es.length ≤ 4611686018427387903) (x y : Int) (p : Nat) (hp : p ≤ es.length)
    (h1 : ∀ j e, j < p → es[j]? = some e → cmpE e.1 e.2 x y < 0) (h2 : ∀ j e, p ≤ j → es[j]? = some e → 0 ≤ cmpE e.1 e.2 x y)
    (fnd : Bool) (h3 : es[p]? = none → fnd = false) (h4 : ∀ e, es[p]? = some e → fnd = decide (cmpE e.1 e.2 x y = 0)) :
    Calls Try.prog 98 #[.slice A es.length c, .agg #[.int .i64 x, .int .i64 y], .func (.func 68) #[.agg #[]] #[]] w fun e w' =>
      e = .returned (.tuple #[.int .i64 p, .bool fnd]) ∧ Below w.heap.size w w' := by
  have H1 := Lib.hid h1
  have H2 := Lib.hid h2
  have H3 := Lib.hid h3
  have H4 := Lib.hid h4
  clear h1 h2 h3 h4
  have HC := fun a b W => compareE a b x y W
  go_enter Try.func98, Try.ntmps98
  go_wp2
  generalize hW : w.alloc (Obj.cells #[Value.int IntKind.i64 x, Value.int IntKind.i64 y] 28) = W
  have hbW : Below w.heap.size w W := by rw [← hW]; go_grown
  have hr1 := hr.below hbW
  have hx0 : W.cell? ⟨w.heap.size, 0, none⟩ = some (.int .i64 x) := by rw [← hW]; simp [go_sem]
  have hx1 : W.cell? ⟨w.heap.size, 1, none⟩ = some (.int .i64 y) := by rw [← hW]; simp [go_sem]
  have hgW : w.heap.size < W.heap.size := by rw [← hW]; simp
  clear hW hr
  generalize hg : w.heap.size = g at *
  go_loopw [9, 10] (fun i j wr => ∃ lo hi : Nat, i = .int .i64 lo ∧ j = .int .i64 hi ∧ lo ≤ p ∧ p ≤ hi ∧ hi ≤ es.length ∧ Below W.heap.size W wr) (fun i j _ => (intOf j - intOf i).toNat)
  case atStart => exact ⟨0, es.length, rfl, rfl, Nat.zero_le _, hp, Nat.le_refl _, Below.refl _ _⟩
  case round =>
    obtain ⟨lo, hi, rfl, rfl, hlp, hph, hhn, hb⟩ := hrel
    have hx0' := (hb.cell (p := ⟨g, 0, none⟩) hgW).trans hx0
    have hx1' := (hb.cell (p := ⟨g, 1, none⟩) hgW).trans hx1
    have hWr : W.heap.size ≤ wr.heap.size := hb.size
    have hfin : ∀ w', Below W.heap.size wr w' → Below w.heap.size w w' := fun w' h' => by rw [hg]; exact hbW.trans ((hb.trans h').mono (by omega))
    by_cases hlt : lo < hi
    · obtain ⟨h, hh, k1, k2⟩ : ∃ h : Nat, ((lo : Int) + hi) / 2 = h ∧ lo ≤ h ∧ h < hi := ⟨(lo + hi) / 2, by omega, by omega, by omega⟩
      obtain ⟨⟨x', y'⟩, hxy⟩ : ∃ e, es[h]? = some e := ⟨es[h], by simp⟩
      obtain ⟨b, o, rfl, hbl, e1, e2⟩ := (hr1.below hb).pair' h _ hxy
      have HXY := Lib.hid hxy
      clear hxy hx0 hx1 hr1
      have K1 : Hid (p ≤ h → 0 ≤ cmpE x' y' x y) := fun hle => H2.out h _ hle HXY.out
      have K2 : Hid (h < p → cmpE x' y' x y < 0) := fun hle => H1.out h _ hle HXY.out
      have HC1 := fun W => HC x' y' W
      generalize cmpE x' y' x y = cp at K1 K2 HC1
      clear H1 H2 HC HXY
      go_wp2_with fail
      (refine wp_quiet_tail 6 (by kernel_rfl) (by kernel_rfl) ?_
       simp only [List.take_succ_cons, List.take_zero, List.drop_succ_cons, List.drop_zero]
       repeat (go_big_quiet_step (fail))
       refine wpQuiet_nil ?_
       intro _ hw'
       obtain ⟨nq, hw''⟩ := hw'
       subst hw'')
      by_cases hcp : cp < 0
      · go_wp2_with (go_at_call 68; refine (HC1 _).mono ?_; rintro e w1 ⟨rfl, hb1⟩)
        go_roundw
        case rel => exact ⟨h + 1, hi, by go_num, rfl, Nat.lt_of_not_le fun hle => by have := K1.out hle; omega, hph, hhn, hb.trans (Below.trans (by (repeat (first | with_reducible exact Below.refl _ _ | with_reducible assumption | with_reducible refine below_drewN0 ?_ _ | with_reducible refine Below.drew ?_ | with_reducible refine Below.alloc ?_ ?_ _ | with_reducible refine Below.setCell ?_ ?_ _ | go_size | exact Below.size (by assumption)))) (hb1.mono (by simp; omega)))⟩
        case measure => simp [intOf]; omega
      · go_wp2_with (go_at_call 68; refine (HC1 _).mono ?_; rintro e w1 ⟨rfl, hb1⟩)
        go_roundw
        case rel => exact ⟨lo, h, rfl, rfl, hlp, Nat.le_of_not_lt fun hle => by have := K2.out hle; omega, by omega, hb.trans (Below.trans (by (repeat (first | with_reducible exact Below.refl _ _ | with_reducible assumption | with_reducible refine below_drewN0 ?_ _ | with_reducible refine Below.drew ?_ | with_reducible refine Below.alloc ?_ ?_ _ | with_reducible refine Below.setCell ?_ ?_ _ | go_size | exact Below.size (by assumption)))) (hb1.mono (by simp; omega)))⟩
        case measure => simp [intOf]; omega
    · obtain rfl : lo = p := by omega
      by_cases hend : lo < es.length
      · obtain ⟨⟨x', y'⟩, hxy⟩ : ∃ e, es[lo]? = some e := ⟨es[lo], by simp⟩
        obtain ⟨b, o, rfl, hbl, e1, e2⟩ := (hr1.below hb).pair' lo _ hxy
        have HE := H4.out _ hxy
        dsimp only at HE
        have HXY := Lib.hid hxy
        clear hxy hx0 hx1 hr1
        have HC1 := fun W => HC x' y' W
        generalize cmpE x' y' x y = cp at HE HC1
        have HE := Lib.hid HE
        clear H1 H2 HC HXY
        have HS := Lib.hid (fun (w' : World) (h : Below wr.heap.size wr w') => (⟨(h.cell (p := ⟨g, 0, none⟩) (by simp; omega)).trans hx0', (h.cell (p := ⟨g, 1, none⟩) (by simp; omega)).trans hx1', (h.cell (p := ⟨b, o + lo * 2, none⟩) hbl).trans e1, (h.cell (p := ⟨b, o + lo * 2 + 1, none⟩) hbl).trans e2⟩ : w'.cell? ⟨g, 0, none⟩ = some (.int .i64 x) ∧ w'.cell? ⟨g, 1, none⟩ = some (.int .i64 y) ∧ w'.cell? ⟨b, o + lo * 2, none⟩ = some (.int .i64 x') ∧ w'.cell? ⟨b, o + lo * 2 + 1, none⟩ = some (.int .i64 y')))
        go_wp2_with fail
        go_region_held3 (fun w' => w'.cell? ⟨g, 0, none⟩ = some (.int .i64 x) ∧ w'.cell? ⟨g, 1, none⟩ = some (.int .i64 y) ∧ w'.cell? ⟨b, o + lo * 2, none⟩ = some (.int .i64 x') ∧ w'.cell? ⟨b, o + lo * 2 + 1, none⟩ = some (.int .i64 y')) (first | exact HS.out _ (Below.refl _ _) | exact HS.out _ (Below.trans (by (repeat (first | with_reducible exact Below.refl _ _ | with_reducible assumption | with_reducible refine below_drewN0 ?_ _ | with_reducible refine Below.drew ?_ | with_reducible refine Below.alloc ?_ ?_ _ | with_reducible refine Below.setCell ?_ ?_ _ | go_size | exact Below.size (by assumption)))) (hb1.mono (by simp))) | (refine HS.out _ ?_; (repeat (first | with_reducible exact Below.refl _ _ | with_reducible assumption | with_reducible refine below_drewN0 ?_ _ | with_reducible refine Below.drew ?_ | with_reducible refine Below.alloc ?_ ?_ _ | with_reducible refine Below.setCell ?_ ?_ _ | go_size | exact Below.size (by assumption))); done)) (first | (go_at_call 68; refine (HC1 _).mono ?_; rintro e w1 ⟨rfl, hb1⟩))
        go_wp2_with fail
        go_ret2
        exact ⟨by rw [HE.out]; rfl, hfin _ (Below.trans (by (repeat (first | with_reducible exact Below.refl _ _ | with_reducible assumption | with_reducible refine below_drewN0 ?_ _ | with_reducible refine Below.drew ?_ | with_reducible refine Below.alloc ?_ ?_ _ | with_reducible refine Below.setCell ?_ ?_ _ | go_size | exact Below.size (by assumption)))) (hb1.mono (by simp; omega)))⟩
      · have HE := H3.out (List.getElem?_eq_none (by omega))
        subst HE
        clear H1 H2 H4 HC hx0 hx1 hr1
        go_wp2_with fail
        go_quiet (fail)
        go_wp2_with fail
        go_ret2
        exact ⟨rfl, hfin _ (by (repeat (first | with_reducible exact Below.refl _ _ | with_reducible assumption | with_reducible refine below_drewN0 ?_ _ | with_reducible refine Below.drew ?_ | with_reducible refine Below.alloc ?_ ?_ _ | with_reducible refine Below.setCell ?_ ?_ _ | go_size | exact Below.size (by assumption))))⟩

end Go.Proofs.Ytglhdoibglafbaa

/- The lower bound in a row of edges that rise (no program in sight). -/
namespace Go.Proofs.Ytglhdoibglafbaa
set_option maxRecDepth 100000
set_option linter.unusedVariables false
set_option linter.unusedSimpArgs false

theorem lb_ex (e : Int × Int) : ∀ (es : List (Int × Int)), es.Pairwise LtE → ∃ p, p ≤ es.length ∧ (∀ j d, j < p → es[j]? = some d → LtE d e) ∧ (∀ j d, p ≤ j → es[j]? = some d → ¬ LtE d e)
  | [], _ => ⟨0, by simp, fun j d h => by omega, fun j d _ h => by simp at h⟩
  | x :: r, h => by
    obtain ⟨h1, h2⟩ := List.pairwise_cons.1 h
    by_cases hx : LtE x e
    · obtain ⟨p, hp, k1, k2⟩ := lb_ex e r h2
      refine ⟨p + 1, by simpa using hp, ?_, ?_⟩
      · rintro (_ | j) d hj hd
        · simp at hd; exact hd ▸ hx
        · exact k1 j d (by omega) (by simpa using hd)
      · rintro (_ | j) d hj hd
        · omega
        · exact k2 j d (by omega) (by simpa using hd)
    · refine ⟨0, by simp, fun j d hj => by omega, ?_⟩
      rintro (_ | j) d hj hd
      · simp at hd; exact hd ▸ hx
      · intro hlt
        exact hx ((h1 d (List.mem_of_getElem? (by simpa using hd))).trans hlt)

theorem cmpE_zero (a b c d : Int) : cmpE a b c d = 0 ↔ a = c ∧ b = d := by
  unfold cmpE
  constructor
  · intro h
    repeat' split at h
    all_goals omega
  · rintro ⟨rfl, rfl⟩
    simp

theorem lb_find {es : List (Int × Int)} {e : Int × Int} {p : Nat} (h1 : ∀ j d, j < p → es[j]? = some d → LtE d e) (h2 : ∀ j d, p ≤ j → es[j]? = some d → ¬ LtE d e) (hs : es.Pairwise LtE) (fnd : Bool)
    (h3 : es[p]? = none → fnd = false) (h4 : ∀ d, es[p]? = some d → fnd = decide (cmpE d.1 d.2 e.1 e.2 = 0)) : findE es e = if fnd = true then (p : Int) else -1 := by
  have hlt : ∀ j, j < p → es[j]? ≠ some e := fun j hj h => LtE.irrefl e (h1 j e hj h)
  cases hp : es[p]? with
  | none =>
    rw [h3 hp, if_neg (by simp)]
    refine findE_no es e fun j hj h => ?_
    by_cases hjp : j < p
    · exact hlt j hjp h
    · have := List.getElem?_eq_none_iff.1 hp
      omega
  | some d =>
    rw [h4 d hp]
    by_cases hd : d = e
    · subst hd
      rw [if_pos (by simp [(cmpE_zero _ _ _ _).2])]
      exact findE_yes es _ p hp hlt
    · rw [if_neg]
      · refine findE_no es e fun j hj h => ?_
        by_cases hjp : j < p
        · exact hlt j hjp h
        by_cases hjp' : j = p
        · subst hjp'
          rw [hp] at h
          exact hd (by simpa using h)
        · have hL : LtE d e := by
            have h5 := List.pairwise_iff_getElem.1 hs p j (List.getElem?_eq_some_iff.1 hp).1 hj (by omega)
            rw [(List.getElem?_eq_some_iff.1 hp).2, (List.getElem?_eq_some_iff.1 h).2] at h5
            exact h5
          exact h2 p d (Nat.le_refl _) hp hL
      · simp only [decide_eq_true_eq, cmpE_zero]
        exact fun hh => hd (Prod.ext hh.1 hh.2)

end Go.Proofs.Ytglhdoibglafbaa

/- Walks of graph's place, Index, Has. -/
namespace Go.Proofs.Ytglhdoibglafbaa
open Go Go.RowKit
set_option maxRecDepth 100000
set_option linter.unusedVariables false
set_option linter.unusedSimpArgs false

set_option maxHeartbeats 2000000 in
theorem place_any (n a b : Int) (es : List (Int × Int)) (A : Option Addr) (c : Nat) (w : World) (hr : Reads w A (pcells es)) (hc : es.length ≤ c) (hm : es.length ≤ 4611686018427387903) (x y : Int) (hx : min a b = x) (hy : max a b = y) (p : Nat) (hp : p ≤ es.length)
    (h1 : ∀ j e, j < p → es[j]? = some e → cmpE e.1 e.2 x y < 0) (h2 : ∀ j e, p ≤ j → es[j]? = some e → 0 ≤ cmpE e.1 e.2 x y)
    (fnd : Bool) (h3 : es[p]? = none → fnd = false) (h4 : ∀ e, es[p]? = some e → fnd = decide (cmpE e.1 e.2 x y = 0)) :
    Calls Try.prog 70 #[.agg #[.int .i64 n, .slice A es.length c], .int .i64 a, .int .i64 b] w fun e w' => e = .returned (.tuple #[.int .i64 p, .bool fnd]) ∧ Below w.heap.size w w' := by
  have HB := fun W hR => bs_any es A c W hR hc hm x y p hp h1 h2 fnd h3 h4
  have HE := fun W => edge_any a b W
  rw [hx, hy] at HE
  clear h1 h2 h3 h4 hx hy
  go_enter Try.func70, Try.ntmps70
  go_wp2_with fail
  obtain ⟨V, hV⟩ : ∃ V, V = w.alloc (Obj.cells #[Value.int IntKind.i64 n, Value.slice A es.length c] 25) := ⟨_, rfl⟩
  rw [← hV]
  have hcV : V.cell? ⟨w.heap.size, 1, none⟩ = some (.slice A es.length c) := by rw [hV]; simp [go_sem]
  have hbV : Below w.heap.size w V := by rw [hV]; exact Below.alloc (Below.refl _ _) (Nat.le_refl _) _
  have hsV : w.heap.size < V.heap.size := by rw [hV]; simp
  have hrV := hr.below hbV
  clear hV hr
  have HS := Lib.hid (fun (w' : World) (h : Below V.heap.size V w') => ((h.cell (p := ⟨w.heap.size, 1, none⟩) hsV).trans hcV : w'.cell? ⟨w.heap.size, 1, none⟩ = some (.slice A es.length c)))
  go_region_held3 (fun w' => w'.cell? ⟨w.heap.size, 1, none⟩ = some (.slice A es.length c)) (first | exact HS.out _ (Below.refl _ _) | exact HS.out _ hbw | exact HS.out _ hbx | (refine HS.out _ ?_; (repeat (first | with_reducible exact Below.refl _ _ | with_reducible assumption | with_reducible refine below_drewN0 ?_ _ | with_reducible refine Below.drew ?_ | with_reducible refine Below.alloc ?_ ?_ _ | with_reducible refine Below.setCell ?_ ?_ _ | go_size | exact Below.size (by assumption))); done)) (first | (go_at_call 65; refine (HE _).mono ?_; rintro e w1 ⟨rfl, hb1⟩; have hbw : Below V.heap.size V w1 := Below.trans (by (repeat (first | with_reducible exact Below.refl _ _ | with_reducible assumption | with_reducible refine below_drewN0 ?_ _ | with_reducible refine Below.drew ?_ | with_reducible refine Below.alloc ?_ ?_ _ | with_reducible refine Below.setCell ?_ ?_ _ | go_size | exact Below.size (by assumption)))) (hb1.mono (by simp))) | (go_at_call 98; refine (HB _ ?_).mono ?_; (refine hrV.below ?_; (repeat (first | with_reducible exact Below.refl _ _ | with_reducible assumption | with_reducible refine below_drewN0 ?_ _ | with_reducible refine Below.drew ?_ | with_reducible refine Below.alloc ?_ ?_ _ | with_reducible refine Below.setCell ?_ ?_ _ | go_size | exact Below.size (by assumption)))); rintro e w2 ⟨rfl, hb2⟩; have hbx : Below V.heap.size V w2 := Below.trans (by (repeat (first | with_reducible exact Below.refl _ _ | with_reducible assumption | with_reducible refine below_drewN0 ?_ _ | with_reducible refine Below.drew ?_ | with_reducible refine Below.alloc ?_ ?_ _ | with_reducible refine Below.setCell ?_ ?_ _ | go_size | exact Below.size (by assumption)))) (hb2.mono (by have := hbw.size; simp; omega))))
  all_goals
    go_wp2_with fail
    go_ret2
    exact ⟨rfl, hbV.trans (hbx.mono (by omega))⟩

set_option maxHeartbeats 2000000 in
theorem index_any (n a b : Int) (es : List (Int × Int)) (A : Option Addr) (c : Nat) (w : World) (hr : Reads w A (pcells es)) (hc : es.length ≤ c) (hm : es.length ≤ 4611686018427387903) :
    Calls Try.prog 35 #[.agg #[.int .i64 n, .slice A es.length c], .int .i64 a, .int .i64 b] w fun e w' => e = .returned (.int .i64 (indexB n es a b)) ∧ Below w.heap.size w w' := by
  have HRt := fun W hR => right_any n es A c W hR hc hm
  unfold indexB
  generalize hrb : rightB n es = rb at HRt ⊢
  cases rb with
  | false =>
    rw [if_neg (by simp)]
    go_enter Try.func35, Try.ntmps35
    go_wp2_with (go_at_call 31; refine (HRt _ ?_).mono ?_; exact hr.below (by (repeat (first | with_reducible exact Below.refl _ _ | with_reducible assumption | with_reducible refine below_drewN0 ?_ _ | with_reducible refine Below.drew ?_ | with_reducible refine Below.alloc ?_ ?_ _ | with_reducible refine Below.setCell ?_ ?_ _ | go_size | exact Below.size (by assumption)))); rintro e w1 ⟨rfl, hb1⟩)
    go_ret
    exact ⟨rfl, Below.trans (by (repeat (first | with_reducible exact Below.refl _ _ | with_reducible assumption | with_reducible refine below_drewN0 ?_ _ | with_reducible refine Below.drew ?_ | with_reducible refine Below.alloc ?_ ?_ _ | with_reducible refine Below.setCell ?_ ?_ _ | go_size | exact Below.size (by assumption)))) (hb1.mono (by simp))⟩
  | true =>
    rw [if_pos rfl]
    have hinc := ((right_iff n es).1 hrb).inc
    clear hrb
    obtain ⟨p, hp, k1, k2⟩ := lb_ex (min a b, max a b) es hinc
    obtain ⟨fnd, k3, k4⟩ : ∃ fnd : Bool, (es[p]? = none → fnd = false) ∧ (∀ d, es[p]? = some d → fnd = decide (cmpE d.1 d.2 (min a b) (max a b) = 0)) := by
      cases hpp : es[p]? with
      | none => exact ⟨false, fun _ => rfl, fun d h => by cases h⟩
      | some d => exact ⟨decide (cmpE d.1 d.2 (min a b) (max a b) = 0), fun h => (by cases h), fun d' h => (by cases h; rfl)⟩
    rw [lb_find (e := (min a b, max a b)) k1 k2 hinc fnd k3 k4]
    have HP := fun W hR => place_any n a b es A c W hR hc hm _ _ rfl rfl p hp (fun j e hj he => (cmpE_lt _ _ _ _).2 (k1 j e hj he)) (fun j e hj he => Int.not_lt.1 fun h => k2 j e hj he ((cmpE_lt _ _ _ _).1 h)) fnd k3 k4
    clear k1 k2 k3 k4 hinc hp
    cases fnd with
    | false =>
      rw [if_neg (by simp)]
      go_enter Try.func35, Try.ntmps35
      go_wp2_with (first | (go_at_call 31; refine (HRt _ ?_).mono ?_; exact hr.below (by (repeat (first | with_reducible exact Below.refl _ _ | with_reducible assumption | with_reducible refine below_drewN0 ?_ _ | with_reducible refine Below.drew ?_ | with_reducible refine Below.alloc ?_ ?_ _ | with_reducible refine Below.setCell ?_ ?_ _ | go_size | exact Below.size (by assumption)))); rintro e w1 ⟨rfl, hb1⟩; have hbw : Below w.heap.size w w1 := Below.trans (by (repeat (first | with_reducible exact Below.refl _ _ | with_reducible assumption | with_reducible refine below_drewN0 ?_ _ | with_reducible refine Below.drew ?_ | with_reducible refine Below.alloc ?_ ?_ _ | with_reducible refine Below.setCell ?_ ?_ _ | go_size | exact Below.size (by assumption)))) (hb1.mono (by simp)); obtain ⟨a0, a1, a2, a3, a4⟩ := blk2 ((hb1.block w.heap.size (by simp)).trans (heap_alloc_new _ _))) | (go_at_call 70; refine (HP _ (hr.below ?_)).mono ?_; (repeat (first | with_reducible exact Below.refl _ _ | with_reducible assumption | with_reducible refine below_drewN0 ?_ _ | with_reducible refine Below.drew ?_ | with_reducible refine Below.alloc ?_ ?_ _ | with_reducible refine Below.setCell ?_ ?_ _ | go_size | exact Below.size (by assumption))); rintro e w2 ⟨rfl, hb2⟩))
      go_ret
      exact ⟨rfl, hbw.trans (hb2.mono hbw.size)⟩
    | true =>
      rw [if_pos rfl]
      go_enter Try.func35, Try.ntmps35
      go_wp2_with (first | (go_at_call 31; refine (HRt _ ?_).mono ?_; exact hr.below (by (repeat (first | with_reducible exact Below.refl _ _ | with_reducible assumption | with_reducible refine below_drewN0 ?_ _ | with_reducible refine Below.drew ?_ | with_reducible refine Below.alloc ?_ ?_ _ | with_reducible refine Below.setCell ?_ ?_ _ | go_size | exact Below.size (by assumption)))); rintro e w1 ⟨rfl, hb1⟩; have hbw : Below w.heap.size w w1 := Below.trans (by (repeat (first | with_reducible exact Below.refl _ _ | with_reducible assumption | with_reducible refine below_drewN0 ?_ _ | with_reducible refine Below.drew ?_ | with_reducible refine Below.alloc ?_ ?_ _ | with_reducible refine Below.setCell ?_ ?_ _ | go_size | exact Below.size (by assumption)))) (hb1.mono (by simp)); obtain ⟨a0, a1, a2, a3, a4⟩ := blk2 ((hb1.block w.heap.size (by simp)).trans (heap_alloc_new _ _))) | (go_at_call 70; refine (HP _ (hr.below ?_)).mono ?_; (repeat (first | with_reducible exact Below.refl _ _ | with_reducible assumption | with_reducible refine below_drewN0 ?_ _ | with_reducible refine Below.drew ?_ | with_reducible refine Below.alloc ?_ ?_ _ | with_reducible refine Below.setCell ?_ ?_ _ | go_size | exact Below.size (by assumption))); rintro e w2 ⟨rfl, hb2⟩))
      go_ret
      exact ⟨rfl, hbw.trans (hb2.mono hbw.size)⟩

theorem has_any (n a b : Int) (es : List (Int × Int)) (A : Option Addr) (c : Nat) (w : World) (hr : Reads w A (pcells es)) (hc : es.length ≤ c) (hm : es.length ≤ 4611686018427387903) :
    Calls Try.prog 33 #[.agg #[.int .i64 n, .slice A es.length c], .int .i64 a, .int .i64 b] w fun e w' => e = .returned (.bool (hasB n es a b)) ∧ Below w.heap.size w w' := by
  have HI := fun W hR => index_any n a b es A c W hR hc hm
  unfold hasB
  generalize indexB n es a b = r at HI ⊢
  go_enter Try.func33, Try.ntmps33
  go_wp2_with (go_at_call 35; refine (HI _ (hr.below ?_)).mono ?_; (repeat (first | with_reducible exact Below.refl _ _ | with_reducible assumption | with_reducible refine below_drewN0 ?_ _ | with_reducible refine Below.drew ?_ | with_reducible refine Below.alloc ?_ ?_ _ | with_reducible refine Below.setCell ?_ ?_ _ | go_size | exact Below.size (by assumption))); rintro e w1 ⟨rfl, hb1⟩)
  go_ret
  exact ⟨rfl, Below.trans (by (repeat (first | with_reducible exact Below.refl _ _ | with_reducible assumption | with_reducible refine below_drewN0 ?_ _ | with_reducible refine Below.drew ?_ | with_reducible refine Below.alloc ?_ ?_ _ | with_reducible refine Below.setCell ?_ ?_ _ | go_size | exact Below.size (by assumption)))) (hb1.mono (by simp))⟩

end Go.Proofs.Ytglhdoibglafbaa
