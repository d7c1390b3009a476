/- Walks of queue's compare, and of entries' Len, Less, Swap. -/
import Derived.Test.YtglhdoibglafbaaU02
import Derived.Test.YtglhdoibglafbaaU03
import Derived.BigRegion
import Derived.Deep.DeepAppendRoom
namespace Go.Proofs.Ytglhdoibglafbaa
open Go Go.RowKit
set_option maxRecDepth 100000
set_option linter.unusedVariables false
set_option linter.unusedSimpArgs false

theorem EI_entry : EI Try.prog 88 39 (.agg #[.int .i64 0, .int .i64 0]) 2 16 := ⟨Try.underlying88, by kernel_rfl, rfl, by decide, by decide⟩
theorem compareQ (a b c d : Int) (w : World) :
    Calls Try.prog 85 #[.agg #[.int .i64 a, .int .i64 b], .agg #[.int .i64 c, .int .i64 d]] w fun e w' => e = .returned (.int .i64 (cmpE a b c d)) ∧ Below w.heap.size w w' := by
  have H1 := cmpE_eq a b c d
  obtain ⟨p, hp⟩ : ∃ p : Int, p = (if a < c then (-1 : Int) else if c < a then 1 else 0) := ⟨_, rfl⟩
  obtain ⟨q, hq⟩ : ∃ p : Int, p = (if b < d then (-1 : Int) else if d < b then 1 else 0) := ⟨_, rfl⟩
  rw [← hp, ← hq] at H1
  obtain ⟨r, hr⟩ : ∃ r : Int, r = if p = 0 then q else p := ⟨_, rfl⟩
  have C1 := fun W => cmpInt a c W
  have C2 := fun W => cmpInt b d W
  have C3 := fun g W h0 h1 => or2 p q g W h0 h1
  rw [← hp] at C1
  rw [← hq] at C2
  rw [← hr] at C3 H1
  clear hp hq hr
  rw [← H1]
  clear H1
  go_enter Try.func85, Try.ntmps85
  go_wp2_with fail
  refine wp_tail 10 (by kernel_rfl) (by kernel_rfl) ?_
  simp only [List.take_succ_cons, List.take_zero, List.drop_succ_cons, List.drop_zero]
  repeat (first | still_step | (refine wpStill_step (fun K hK => ?_); go_simp; with_reducible refine ⟨_, flip_w (C1 _), hK _ ?_⟩; clear hK K)  | (refine wpStill_step (fun K hK => ?_); go_simp; with_reducible refine ⟨_, flip_w (C2 _), hK _ ?_⟩; clear hK K))
  refine wpStill_nil ?_
  clear C1 C2
  go_wp2_with fail
  with_reducible refine (C3 _ _ ?_ ?_).mono ?_
  · simp [go_sem]
  · simp [go_sem]
  rintro e w' ⟨rfl, rfl⟩
  clear C3
  go_wp2_with fail
  go_ret
  exact ⟨rfl, by go_grown⟩


theorem lenQ (A : Option Addr) (n c : Nat) (w : World) : Calls Try.prog 158 #[.slice A n c] w fun e w' => e = .returned (.int .i64 (n : Int)) ∧ w = w' := by
  go_enter Try.func158, Try.ntmps158
  go_wp2
  go_ret
  simp

theorem lessQ (es : List PE) (i j : Nat) (x y : PE) (hi : es[i]? = some x) (hj : es[j]? = some y) (A : Option Addr) (c : Nat) (w : World) (hr : Reads w A (pcells es)) (hc : es.length ≤ c) (hm : es.length ≤ 4611686018427387903) :
    Calls Try.prog 159 #[.slice A es.length c, .int .i64 i, .int .i64 j] w fun e w' => e = .returned (.bool (decide (cmpE x.1 x.2 y.1 y.2 < 0))) ∧ Below w.heap.size w w' := by
  obtain ⟨b, o, rfl, hbl, e1, e2⟩ := hr.pair' i x hi
  obtain ⟨b', o', hbo, _, e3, e4⟩ := hr.pair' j y hj
  obtain ⟨rfl, rfl⟩ : b' = b ∧ o' = o := by simpa using hbo.symm
  have h1 := (List.getElem?_eq_some_iff.1 hi).1
  have h2 := (List.getElem?_eq_some_iff.1 hj).1
  have i1 : (i : Int) < (es.length : Int) := by omega
  have i2 : (j : Int) < (es.length : Int) := by omega
  have HC := fun W => compareQ x.1 x.2 y.1 y.2 W
  generalize cmpE x.1 x.2 y.1 y.2 = cp at HC ⊢
  clear hr hbo hi hj
  go_enter Try.func159, Try.ntmps159
  (go_wp2_with fail
   refine wp_quiet_tail 8 (by kernel_rfl) (by kernel_rfl) ?_
   simp only [List.take_succ_cons, List.take_zero, List.drop_succ_cons, List.drop_zero]
   repeat (go_big_quiet_step (fail))
   refine wpQuiet_nil ?_
   intro _ hw'
   obtain ⟨nq, hw''⟩ := hw'
   subst hw'')
  go_wp2_with (go_at_call 85; refine (HC _).mono ?_; rintro e w1 ⟨rfl, hb1⟩)
  go_ret
  exact ⟨rfl, Below.trans (by (repeat (first | with_reducible exact Below.refl _ _ | with_reducible assumption | with_reducible refine below_drewN0 ?_ _ | with_reducible refine Below.drew ?_ | with_reducible refine Below.alloc ?_ ?_ _ | with_reducible refine Below.setCell ?_ ?_ _ | go_size | exact Below.size (by assumption)))) (hb1.mono (by simp))⟩

theorem grown_set (w : World) (g o : Nat) (u : Value) : w.grownBy (w.setCell ⟨g, o, none⟩ u) (some g) :=
  ⟨rfl, rfl, rfl, by simp [World.setCell], fun k hk hne => Below.heap_setCell w ⟨g, o, none⟩ u k (fun e => hne (by simp [e]))⟩
theorem grown_trans {a b c : World} {r : Option Nat} (h : a.grownBy b r) (k : b.grownBy c r) : a.grownBy c r :=
  ⟨k.os.trans h.os, k.tape.trans h.tape, k.output.trans h.output, Nat.le_trans h.size k.size, fun i hi hne => (k.block i (Nat.lt_of_lt_of_le hi h.size) hne).trans (h.block i hi hne)⟩
theorem grown_drew {a b : World} {r : Option Nat} (h : a.grownBy b r) : a.grownBy b.drew r := ⟨h.os, h.tape, h.output, h.size, h.block⟩

theorem swapQ (es : List PE) (i j : Nat) (x y : PE) (hi : es[i]? = some x) (hj : es[j]? = some y) (B g c : Nat) (w : World) (ho : w.ownsRow B 39 2 (.slice (some ⟨g, 0, none⟩) es.length c) es.length (pcells es)) (hm : es.length ≤ 4611686018427387903) :
    Calls Try.prog 160 #[.slice (some ⟨g, 0, none⟩) es.length c, .int .i64 i, .int .i64 j] w fun e w' => e = .returned (.tuple #[]) ∧ w'.ownsRow B 39 2 (.slice (some ⟨g, 0, none⟩) es.length c) es.length (pcells (swapL es i j)) ∧ w.grownBy w' (some g) := by
  have h1 := (List.getElem?_eq_some_iff.1 hi).1
  have h2 := (List.getElem?_eq_some_iff.1 hj).1
  obtain ⟨g', c', hv, hnc, hBg, hgl, hcell, hfz⟩ := own_block ho (by omega)
  obtain ⟨rfl, rfl⟩ : g' = g ∧ c' = c := by simpa using hv.symm
  have i1 : (i : Int) < (es.length : Int) := by omega
  have i2 : (j : Int) < (es.length : Int) := by omega
  have e1 := hcell _ _ (pcells_get es i x hi).1
  have e2 := hcell _ _ (pcells_get es i x hi).2
  have e3 := hcell _ _ (pcells_get es j y hj).1
  have e4 := hcell _ _ (pcells_get es j y hj).2
  rw [Nat.mul_comm] at e1 e2 e3 e4
  have z1 := hfz (i * 2)
  have z2 := hfz (i * 2 + 1)
  have z3 := hfz (j * 2)
  have z4 := hfz (j * 2 + 1)
  have HO := Lib.hid ho
  have HI := Lib.hid hi
  have HJ := Lib.hid hj
  clear ho hi hj hcell hfz hv
  by_cases hij : i = j
  · subst hij
    have hxy : x = y := by have := HI.out; rw [HJ.out] at this; exact (Option.some.inj this).symm
    subst hxy
    go_enter Try.func160, Try.ntmps160
    go_wp2_with fail
    go_region
    all_goals
      go_wp2_with fail
      go_end0
      have ho := own_write (own_write (own_write (own_write HO.out (i * 2) (by rw [pcells_length]; omega) (.int .i64 x.1)) (i * 2 + 1) (by simp [pcells_length]; omega) (.int .i64 x.2)) (i * 2) (by simp [pcells_length]; omega) (.int .i64 x.1)) (i * 2 + 1) (by simp [pcells_length]; omega) (.int .i64 x.2)
      have hx0 : es.set i x = es := by
        apply List.ext_getElem?
        intro k
        rw [List.getElem?_set]
        by_cases e : i = k
        · subst e; rw [HI.out]; simp [h1]
        · rw [if_neg e]
      rw [pcells_set0 _ _ _ _ x.1 HI.out, pcells_set1 _ _ x.1 x.2 x.2 (by simp [h1]), List.set_set, hx0, pcells_set0 _ _ _ _ x.1 HI.out, pcells_set1 _ _ x.1 x.2 x.2 (by simp [h1]), List.set_set, hx0] at ho
      have hsw : swapL es i i = es := by rw [swapL_eq HI.out HI.out, List.set_set]; exact hx0
      refine ⟨rfl, ?_, ?_⟩
      · rw [hsw]; first | exact ho | exact own_far ho (fun _ _ => rfl)
      · exact grown_drew (grown_trans (grown_trans (grown_trans (grown_set _ _ _ _) (grown_set _ _ _ _)) (grown_set _ _ _ _)) (grown_set _ _ _ _))
  · have n1 : ¬ (i * 2 = j * 2) := by omega
    have n2 : ¬ (i * 2 + 1 = j * 2) := by omega
    have n3 : ¬ (i * 2 = j * 2 + 1) := by omega
    have n4 : ¬ (i * 2 + 1 = j * 2 + 1) := by omega
    go_enter Try.func160, Try.ntmps160
    go_wp2_with fail
    go_region
    all_goals
      go_wp2_with fail
      go_end0
      have ho := own_write (own_write (own_write (own_write HO.out (i * 2) (by rw [pcells_length]; omega) (.int .i64 y.1)) (i * 2 + 1) (by simp [pcells_length]; omega) (.int .i64 y.2)) (j * 2) (by simp [pcells_length]; omega) (.int .i64 x.1)) (j * 2 + 1) (by simp [pcells_length]; omega) (.int .i64 x.2)
      rw [pcells_set0 _ _ _ _ y.1 HI.out, pcells_set1 _ _ y.1 x.2 y.2 (by simp [h1]), List.set_set, pcells_set0 _ j y.1 y.2 x.1 (by rw [List.getElem?_set, if_neg hij]; exact HJ.out), pcells_set1 _ j x.1 y.2 x.2 (by simp [h2]), List.set_set] at ho
      refine ⟨rfl, ?_, ?_⟩
      · rw [swapL_eq HI.out HJ.out]; first | exact ho | exact own_far ho (fun _ _ => rfl)
      · exact grown_drew (grown_trans (grown_trans (grown_trans (grown_set _ _ _ _) (grown_set _ _ _ _)) (grown_set _ _ _ _)) (grown_set _ _ _ _))
end Go.Proofs.Ytglhdoibglafbaa

/- Walks of help's Same, Plain at numbers, edges. -/
namespace Go.Proofs.Ytglhdoibglafbaa
open Go Go.RowKit
set_option maxRecDepth 100000
set_option linter.unusedVariables false
set_option linter.unusedSimpArgs false

theorem eqI (a b : Int) (w : World) : Calls Try.prog 73 #[.int .i64 a, .int .i64 b] w fun e w' => e = .returned (.bool (decide (a = b))) ∧ Below w.heap.size w w' := by
  by_cases h : a = b
  · subst h
    go_enter Try.func73, Try.ntmps73
    go_wp2
    go_ret
    exact ⟨by simp, by (repeat (first | with_reducible exact Below.refl _ _ | with_reducible assumption | with_reducible refine below_drewN0 ?_ _ | with_reducible refine Below.drew ?_ | with_reducible refine Below.alloc ?_ ?_ _ | with_reducible refine Below.setCell ?_ ?_ _ | go_size | exact Below.size (by assumption)))⟩
  · have h' : (a == b) = false := by simpa using h
    go_enter Try.func73, Try.ntmps73
    go_wp2
    go_ret
    exact ⟨by simp [h], by (repeat (first | with_reducible exact Below.refl _ _ | with_reducible assumption | with_reducible refine below_drewN0 ?_ _ | with_reducible refine Below.drew ?_ | with_reducible refine Below.alloc ?_ ?_ _ | with_reducible refine Below.setCell ?_ ?_ _ | go_size | exact Below.size (by assumption)))⟩

theorem eqE (a b c d : Int) (w : World) : Calls Try.prog 80 #[.agg #[.int .i64 a, .int .i64 b], .agg #[.int .i64 c, .int .i64 d]] w fun e w' => e = .returned (.bool (decide ((a, b) = (c, d)))) ∧ Below w.heap.size w w' := by
  by_cases h : a = c
  · subst h
    by_cases h2 : b = d
    · subst h2
      go_enter Try.func80, Try.ntmps80
      go_wp2
      go_ret
      exact ⟨by simp, by (repeat (first | with_reducible exact Below.refl _ _ | with_reducible assumption | with_reducible refine below_drewN0 ?_ _ | with_reducible refine Below.drew ?_ | with_reducible refine Below.alloc ?_ ?_ _ | with_reducible refine Below.setCell ?_ ?_ _ | go_size | exact Below.size (by assumption)))⟩
    · go_enter Try.func80, Try.ntmps80
      go_wp2
      go_ret
      exact ⟨by simp [h2], by (repeat (first | with_reducible exact Below.refl _ _ | with_reducible assumption | with_reducible refine below_drewN0 ?_ _ | with_reducible refine Below.drew ?_ | with_reducible refine Below.alloc ?_ ?_ _ | with_reducible refine Below.setCell ?_ ?_ _ | go_size | exact Below.size (by assumption)))⟩
  · go_enter Try.func80, Try.ntmps80
    go_wp2
    go_ret
    exact ⟨by simp [h], by (repeat (first | with_reducible exact Below.refl _ _ | with_reducible assumption | with_reducible refine below_drewN0 ?_ _ | with_reducible refine Below.drew ?_ | with_reducible refine Below.alloc ?_ ?_ _ | with_reducible refine Below.setCell ?_ ?_ _ | go_size | exact Below.size (by assumption)))⟩
theorem eqEP (x y : Int × Int) (w : World) : Calls Try.prog 80 #[.agg #[.int .i64 x.1, .int .i64 x.2], .agg #[.int .i64 y.1, .int .i64 y.2]] w fun e w' => e = .returned (.bool (decide (x = y))) ∧ Below w.heap.size w w' := eqE x.1 x.2 y.1 y.2 w


set_option maxHeartbeats 2000000 in
theorem sameI (l1 l2 : List (Int)) (A1 A2 : Option Addr) (c1 c2 : Nat) (w : World) (h1 : Reads w A1 (icells l1)) (h2 : Reads w A2 (icells l2)) (hc1 : l1.length ≤ c1) (hc2 : l2.length ≤ c2) (hm1 : l1.length ≤ 4611686018427387903) (hm2 : l2.length ≤ 4611686018427387903) :
    Calls Try.prog 72 #[.slice A1 l1.length c1, .slice A2 l2.length c2, .func (.func 73) #[] #[]] w fun e w' => e = .returned (.bool (decide (l1 = l2))) ∧ Below w.heap.size w w' := by
  by_cases hl : l1.length = l2.length
  · have HD : ∀ k, (∀ i : Nat, i < k → l1[i]? = l2[i]?) → l1.length ≤ k → l1 = l2 := fun k h hk => by
      apply List.ext_getElem?
      intro i
      by_cases hi : i < l1.length
      · exact h i (by omega)
      · rw [List.getElem?_eq_none (by omega), List.getElem?_eq_none (by omega)]
    have hl2 : ((l1.length : Int) != (l2.length : Int)) = false := by simp [hl]
    have HL := Lib.hid hl
    clear hl
    go_enter Try.func72, Try.ntmps72
    go_wp2_with fail
    go_loopw [7] (fun i wr => ∃ k : Nat, k ≤ l1.length ∧ i = .int .i64 k ∧ Hid (∀ i : Nat, i < k → l1[i]? = l2[i]?) ∧ Below w.heap.size w wr) (fun i _ => l1.length - (intOf i).toNat)
    case atStart => exact ⟨0, Nat.zero_le _, rfl, fun i h => by omega, Below.refl _ _⟩
    case round =>
      obtain ⟨k, hk, rfl, hall, hb⟩ := hrel
      have hbs := hb.size
      by_cases hlt : k < l1.length
      · have hk2 : (k : Int) < (l2.length : Int) := by have := HL.out; omega
        have hk2' : k < l2.length := by have := HL.out; omega
        (obtain ⟨x, hx⟩ : ∃ x, l1[k]? = some x := ⟨l1[k], by simp [hlt]⟩
         obtain ⟨y, hy⟩ : ∃ y, l2[k]? = some y := ⟨l2[k], by simp⟩
         obtain ⟨b1, o1, rfl, hb1, e1⟩ := (h1.below hb).int k x hx
         obtain ⟨b2, o2, rfl, hb2, e2⟩ := (h2.below hb).int k y hy)
        have HX := Lib.hid hx
        have HY := Lib.hid hy
        clear hx hy h1 h2
        by_cases hxy : x = y
        · subst hxy
          have HD9 := Lib.hid HD
          clear HD
          go_wp2_with fail
          (refine wp_quiet_tail 9 (by kernel_rfl) (by kernel_rfl) ?_
           simp only [List.take_succ_cons, List.take_zero, List.drop_succ_cons, List.drop_zero]
           repeat (go_big_quiet_step (fail))
           refine wpQuiet_nil ?_
           intro _ hw'
           obtain ⟨nq, hw''⟩ := hw'
           subst hw'')
          go_wp2_with (go_at_call 73; refine (eqI _ _ _).mono ?_; simp only [decide_true]; rintro e w1 ⟨rfl, hb1⟩)
          go_roundw
          case rel => exact ⟨k + 1, by omega, by go_num, fun i hi => (by
            by_cases h9 : i = k
            · subst h9; rw [HX.out, HY.out]
            · exact hall.out i (by omega)), hb.trans (Below.trans (by (repeat (first | with_reducible exact Below.refl _ _ | with_reducible assumption | with_reducible refine below_drewN0 ?_ _ | with_reducible refine Below.drew ?_ | with_reducible refine Below.alloc ?_ ?_ _ | with_reducible refine Below.setCell ?_ ?_ _ | go_size | exact Below.size (by assumption)))) (hb1.mono (by simp; try omega)))⟩
          case measure => simp [intOf]; omega
        · have hne : decide (l1 = l2) = false := decide_eq_false (fun h => by
            have := HX.out
            rw [h, HY.out] at this
            exact hxy (by simpa using this.symm))
          have HNE := Lib.hid hne
          have hd := decide_eq_false hxy
          have HD9 := Lib.hid HD
          clear HD hxy hne
          go_wp2_with fail
          (refine wp_quiet_tail 9 (by kernel_rfl) (by kernel_rfl) ?_
           simp only [List.take_succ_cons, List.take_zero, List.drop_succ_cons, List.drop_zero]
           repeat (go_big_quiet_step (fail))
           refine wpQuiet_nil ?_
           intro _ hw'
           obtain ⟨nq, hw''⟩ := hw'
           subst hw'')
          go_wp2_with (go_at_call 73; refine (eqI _ _ _).mono ?_; simp only [hd]; rintro e w1 ⟨rfl, hb1⟩)
          go_ret
          exact ⟨by rw [HNE.out]; rfl, hb.trans (Below.trans (by (repeat (first | with_reducible exact Below.refl _ _ | with_reducible assumption | with_reducible refine below_drewN0 ?_ _ | with_reducible refine Below.drew ?_ | with_reducible refine Below.alloc ?_ ?_ _ | with_reducible refine Below.setCell ?_ ?_ _ | go_size | exact Below.size (by assumption)))) (hb1.mono (by simp; try omega)))⟩
      · have hne : decide (l1 = l2) = true := decide_eq_true (HD k hall.out (by omega))
        have HNE := Lib.hid hne
        clear HD hne
        go_wp2_with fail
        go_ret
        exact ⟨by rw [HNE.out]; rfl, hb⟩
  · have hl2 : ((l1.length : Int) != (l2.length : Int)) = true := by simp; omega
    have hne : decide (l1 = l2) = false := decide_eq_false (fun h => hl (by rw [h]))
    rw [hne]
    clear hne hl
    go_enter Try.func72, Try.ntmps72
    go_wp2_with fail
    go_ret
    exact ⟨rfl, Below.refl _ _⟩

theorem sameI_plain (l1 l2 : List (Int)) (A1 A2 : Option Addr) (c1 c2 : Nat) (w : World) (h1 : Reads w A1 (icells l1)) (h2 : Reads w A2 (icells l2)) (hc1 : l1.length ≤ c1) (hc2 : l2.length ≤ c2) (hm1 : l1.length ≤ 4611686018427387903) (hm2 : l2.length ≤ 4611686018427387903) :
    Calls Try.prog 37 #[.slice A1 l1.length c1, .slice A2 l2.length c2] w fun e w' => e = .returned (.bool (decide (l1 = l2))) ∧ Below w.heap.size w w' := by
  have HS := sameI l1 l2 A1 A2 c1 c2 w h1 h2 hc1 hc2 hm1 hm2
  generalize decide (l1 = l2) = d at *
  clear h1 h2
  go_enter Try.func37, Try.ntmps37
  go_wp2_with (go_at_call 72; refine HS.mono ?_; rintro e w1 ⟨rfl, hb1⟩)
  go_ret
  exact ⟨rfl, hb1⟩
set_option maxHeartbeats 2000000 in
theorem sameE (l1 l2 : List (Int × Int)) (A1 A2 : Option Addr) (c1 c2 : Nat) (w : World) (h1 : Reads w A1 (pcells l1)) (h2 : Reads w A2 (pcells l2)) (hc1 : l1.length ≤ c1) (hc2 : l2.length ≤ c2) (hm1 : l1.length ≤ 4611686018427387903) (hm2 : l2.length ≤ 4611686018427387903) :
    Calls Try.prog 79 #[.slice A1 l1.length c1, .slice A2 l2.length c2, .func (.func 80) #[] #[]] w fun e w' => e = .returned (.bool (decide (l1 = l2))) ∧ Below w.heap.size w w' := by
  by_cases hl : l1.length = l2.length
  · have HD : ∀ k, (∀ i : Nat, i < k → l1[i]? = l2[i]?) → l1.length ≤ k → l1 = l2 := fun k h hk => by
      apply List.ext_getElem?
      intro i
      by_cases hi : i < l1.length
      · exact h i (by omega)
      · rw [List.getElem?_eq_none (by omega), List.getElem?_eq_none (by omega)]
    have hl2 : ((l1.length : Int) != (l2.length : Int)) = false := by simp [hl]
    have HL := Lib.hid hl
    clear hl
    go_enter Try.func79, Try.ntmps79
    go_wp2_with fail
    go_loopw [7] (fun i wr => ∃ k : Nat, k ≤ l1.length ∧ i = .int .i64 k ∧ Hid (∀ i : Nat, i < k → l1[i]? = l2[i]?) ∧ Below w.heap.size w wr) (fun i _ => l1.length - (intOf i).toNat)
    case atStart => exact ⟨0, Nat.zero_le _, rfl, fun i h => by omega, Below.refl _ _⟩
    case round =>
      obtain ⟨k, hk, rfl, hall, hb⟩ := hrel
      have hbs := hb.size
      by_cases hlt : k < l1.length
      · have hk2 : (k : Int) < (l2.length : Int) := by have := HL.out; omega
        have hk2' : k < l2.length := by have := HL.out; omega
        (obtain ⟨x, hx⟩ : ∃ x, l1[k]? = some x := ⟨l1[k], by simp [hlt]⟩
         obtain ⟨y, hy⟩ : ∃ y, l2[k]? = some y := ⟨l2[k], by simp⟩
         obtain ⟨b1, o1, rfl, hb1, e1, e1'⟩ := (h1.below hb).pair' k x hx
         obtain ⟨b2, o2, rfl, hb2, e2, e2'⟩ := (h2.below hb).pair' k y hy
         have hdum : True := trivial)
        have HX := Lib.hid hx
        have HY := Lib.hid hy
        clear hx hy h1 h2
        by_cases hxy : x = y
        · subst hxy
          have HD9 := Lib.hid HD
          clear HD
          go_wp2_with fail
          (refine wp_quiet_tail 9 (by kernel_rfl) (by kernel_rfl) ?_
           simp only [List.take_succ_cons, List.take_zero, List.drop_succ_cons, List.drop_zero]
           repeat (go_big_quiet_step (fail))
           refine wpQuiet_nil ?_
           intro _ hw'
           obtain ⟨nq, hw''⟩ := hw'
           subst hw'')
          go_wp2_with (go_at_call 80; refine (eqEP _ _ _).mono ?_; simp only [decide_true]; rintro e w1 ⟨rfl, hb1⟩)
          go_roundw
          case rel => exact ⟨k + 1, by omega, by go_num, fun i hi => (by
            by_cases h9 : i = k
            · subst h9; rw [HX.out, HY.out]
            · exact hall.out i (by omega)), hb.trans (Below.trans (by (repeat (first | with_reducible exact Below.refl _ _ | with_reducible assumption | with_reducible refine below_drewN0 ?_ _ | with_reducible refine Below.drew ?_ | with_reducible refine Below.alloc ?_ ?_ _ | with_reducible refine Below.setCell ?_ ?_ _ | go_size | exact Below.size (by assumption)))) (hb1.mono (by simp; try omega)))⟩
          case measure => simp [intOf]; omega
        · have hne : decide (l1 = l2) = false := decide_eq_false (fun h => by
            have := HX.out
            rw [h, HY.out] at this
            exact hxy (by simpa using this.symm))
          have HNE := Lib.hid hne
          have hd := decide_eq_false hxy
          have HD9 := Lib.hid HD
          clear HD hxy hne
          go_wp2_with fail
          (refine wp_quiet_tail 9 (by kernel_rfl) (by kernel_rfl) ?_
           simp only [List.take_succ_cons, List.take_zero, List.drop_succ_cons, List.drop_zero]
           repeat (go_big_quiet_step (fail))
           refine wpQuiet_nil ?_
           intro _ hw'
           obtain ⟨nq, hw''⟩ := hw'
           subst hw'')
          go_wp2_with (go_at_call 80; refine (eqEP _ _ _).mono ?_; simp only [hd]; rintro e w1 ⟨rfl, hb1⟩)
          go_ret
          exact ⟨by rw [HNE.out]; rfl, hb.trans (Below.trans (by (repeat (first | with_reducible exact Below.refl _ _ | with_reducible assumption | with_reducible refine below_drewN0 ?_ _ | with_reducible refine Below.drew ?_ | with_reducible refine Below.alloc ?_ ?_ _ | with_reducible refine Below.setCell ?_ ?_ _ | go_size | exact Below.size (by assumption)))) (hb1.mono (by simp; try omega)))⟩
      · have hne : decide (l1 = l2) = true := decide_eq_true (HD k hall.out (by omega))
        have HNE := Lib.hid hne
        clear HD hne
        go_wp2_with fail
        go_ret
        exact ⟨by rw [HNE.out]; rfl, hb⟩
  · have hl2 : ((l1.length : Int) != (l2.length : Int)) = true := by simp; omega
    have hne : decide (l1 = l2) = false := decide_eq_false (fun h => hl (by rw [h]))
    rw [hne]
    clear hne hl
    go_enter Try.func79, Try.ntmps79
    go_wp2_with fail
    go_ret
    exact ⟨rfl, Below.refl _ _⟩

theorem sameE_plain (l1 l2 : List (Int × Int)) (A1 A2 : Option Addr) (c1 c2 : Nat) (w : World) (h1 : Reads w A1 (pcells l1)) (h2 : Reads w A2 (pcells l2)) (hc1 : l1.length ≤ c1) (hc2 : l2.length ≤ c2) (hm1 : l1.length ≤ 4611686018427387903) (hm2 : l2.length ≤ 4611686018427387903) :
    Calls Try.prog 51 #[.slice A1 l1.length c1, .slice A2 l2.length c2] w fun e w' => e = .returned (.bool (decide (l1 = l2))) ∧ Below w.heap.size w w' := by
  have HS := sameE l1 l2 A1 A2 c1 c2 w h1 h2 hc1 hc2 hm1 hm2
  generalize decide (l1 = l2) = d at *
  clear h1 h2
  go_enter Try.func51, Try.ntmps51
  go_wp2_with (go_at_call 79; refine HS.mono ?_; rintro e w1 ⟨rfl, hb1⟩)
  go_ret
  exact ⟨rfl, hb1⟩

end Go.Proofs.Ytglhdoibglafbaa

/- append onto a row known whole that has room (no program in sight). -/
namespace Go.Proofs.Ytglhdoibglafbaa
open Go Go.RowKit
set_option maxRecDepth 100000
set_option linter.unusedVariables false
set_option linter.unusedSimpArgs false

section
variable {P : Program} {t e : TypeId} {z : Value} {size bytes : Nat}

theorem run_room (E : EI P t e z size bytes) (w : World) (ty : TypeId) (g : Nat) (cur : List Value) (n cap : Nat) (hg : w.heap[g]? = some (.cells cur.toArray e (0, 0))) (hcap : cur.length = cap * size)
    (A : Option Addr) (m c : Nat) (news : List Value) (hr : Reads w A news) (hl : news.length = m * size) (h1 : ∀ u ∈ news, u.oneCell' = true) (hroom : n + m ≤ cap) :
    ∃ w', (Builtin.append_ #[t, t] ty #[.slice (some ⟨g, 0, none⟩) n cap, .slice A m c]).run P w = .ok (.slice (some ⟨g, 0, none⟩) (n + m) cap) w' ∧
      w'.heap[g]? = some (.cells (cur.take (n * size) ++ news ++ cur.drop ((n + m) * size)).toArray e (0, 0)) ∧ w.grownBy w' (some g) := by
  obtain ⟨i, hi, hz, hsize, hbytes⟩ := info_parts E.hinfo
  cases A with
  | none =>
    have h0 : news = [] := by
      rcases hr with h | ⟨b, o, h, _⟩
      · exact h
      · cases h
    subst h0
    have hm : m = 0 := by
      have := E.hsz
      rcases Nat.mul_eq_zero.1 (show m * size = 0 by simpa using hl.symm) with h | h <;> omega
    subst hm
    refine ⟨w, ?_, by simpa using hg, World.grownBy.refl w _⟩
    simp [Builtin.append_, run_underlying E.ht, sizeOf, typeInfo, hi, Builtin.lenOf, Builtin.firstCells, show n ≤ cap from hroom, storeCells]
  | some ad =>
    have hc : ∀ j u, news[j]? = some u → w.cell? (ad.add j) = some u := by
      intro j u hu
      rcases hr with h | ⟨b, o, h, _, hc⟩
      · subst h; simp at hu
      · injection h with h
        subst h
        have : (⟨b, o, none⟩ : Addr).add j = ⟨b, o + j, none⟩ := by unfold Addr.add; split <;> simp_all
        rw [this]
        exact hc j u hu
    subst hsize
    have hfit : n * i.size + news.length ≤ cur.toArray.size := by
      rw [hl, List.size_toArray, hcap, ← Nat.add_mul]; exact Nat.mul_le_mul_right _ hroom
    have hrun := run_append_room (P := P) w t ty e i E.ht hi g n cap cur.toArray hg ad m c news hl hc h1 hroom hfit
    refine ⟨_, hrun, ?_, ⟨rfl, rfl, rfl, by simp, fun k _ hk => setRow_other w g k _ (fun e => hk (by simp [e]))⟩⟩
    rw [setRow_heap w g cur.toArray _ e _ hg]
    simp only [hl, Nat.add_mul]

theorem wpList_room (E : EI P t e z size bytes) {w : World} {ops : Array Oper} {rest : List Oper} {o : Oper} {a : Act} {Q : Exit → Act → World → Prop} (hgd : o.guard = none) (s x : Operand)
    (ho : o.op = .call { callee := .builtin .append, args := #[s, x], argTypes := #[t, t] })
    (g : Nat) (cur : List Value) (n cap : Nat) (hs : a.eval s = .slice (some ⟨g, 0, none⟩) n cap) (hg : w.heap[g]? = some (.cells cur.toArray e (0, 0))) (hcap : cur.length = cap * size)
    (A : Option Addr) (m c : Nat) (news : List Value) (hx : a.eval x = .slice A m c) (hr : Reads w A news) (hl : news.length = m * size) (h1 : ∀ u ∈ news, u.oneCell' = true) (hroom : n + m ≤ cap)
    (h : ∀ w', w'.heap[g]? = some (.cells (cur.take (n * size) ++ news ++ cur.drop ((n + m) * size)).toArray e (0, 0)) → w.grownBy w' (some g) → wpList P ops Q rest (a.put o.dst (.slice (some ⟨g, 0, none⟩) (n + m) cap)) w') : wpList P ops Q (o :: rest) a w :=
  wpList_plain hgd fun _ hK => by
    obtain ⟨w', hrun, h2, h3⟩ := run_room E w o.type g cur n cap hg hcap A m c news hr hl h1 hroom
    unfold Oper.wp execOp
    simp only [ho, resolve, invoke, builtin, Sem.run_bind, Sem.run_pure, Result.andThen_ok, List.map_toArray, List.map_cons, List.map_nil, hs, hx, hrun]
    exact hK _ _ (h w' h2 h3)
end

theorem madeI (n : Nat) : madeCells #[.int .i64 0] n = (icells (List.replicate n 0)).toArray := made_zero n
theorem pcells_replicate (n : Nat) (a b : Int) : ∀ j, (pcells (List.replicate n (a, b)))[j]? = if j < n * 2 then some (.int .i64 (if j % 2 = 0 then a else b)) else none := by
  induction n with
  | zero => intro j; simp [pcells]
  | succ n ih =>
    intro j
    rw [List.replicate_succ]
    match j with
    | 0 => simp [pcells]
    | 1 => simp [pcells]; omega
    | j + 2 =>
      have := ih j
      simp only [pcells, List.flatMap_cons, List.cons_append, List.nil_append, List.getElem?_cons_succ] at this ⊢
      rw [this]
      have e1 : (j + 2) % 2 = j % 2 := by omega
      rw [e1]
      by_cases h : j < n * 2
      · have h2 : j + 2 < (n + 1) * 2 := by omega
        simp only [h, h2, if_true]
      · have h2 : ¬ j + 2 < (n + 1) * 2 := by omega
        simp only [h, h2, if_false]
theorem madeP (n : Nat) : madeCells #[.int .i64 0, .int .i64 0] (n * 2) = (pcells (List.replicate n (0, 0))).toArray := by
  apply Array.ext
  · simp [madeCells, pcells_length]; omega
  · intro i h1 h2
    have h3 : i < n * 2 := by simpa [madeCells] using h1
    have := pcells_replicate n 0 0 i
    rw [if_pos h3] at this
    simp only [ite_self] at this
    have h4 := (List.getElem?_eq_some_iff.1 this).2
    simp only [List.getElem_toArray, h4]
    rcases Nat.mod_two_eq_zero_or_one i with h | h <;> simp [madeCells, h]
theorem pcells_nil_replicate0 : pcells [] = [] := rfl
theorem pcells_drop0 (l : List (Int × Int)) (k : Nat) : (pcells l).drop (k * 2) = pcells (l.drop k) := (pcells_drop l k).symm
theorem icells_drop (l : List Int) (k : Nat) : (icells l).drop k = icells (l.drop k) := by simp [icells, List.map_drop]
theorem icells_set (l : List Int) (k : Nat) (x : Int) : (icells l).set k (.int .i64 x) = icells (l.set k x) := by simp [icells, List.map_set]
end Go.Proofs.Ytglhdoibglafbaa
