/- Walks of queue's compare, and of entries' Len, Less, Swap. -/
import Derived.Test.YtglhdoibglafbaaA1
import Derived.Test.YtglhdoibglafbaaB2
import Derived.Test.YtglhdoibglafbaaQ0
import Derived.BigRegion
namespace Go.Proofs.Ytglhdoibglafbaa
open Go Go.RowKit
set_option maxRecDepth 100000
set_option linter.unusedVariables false

theorem EI_entry : EI Try.prog 88 39 (.agg #[.int .i64 0, .int .i64 0]) 2 16 := ⟨Try.underlying88, by kernel_rfl, rfl, by decide, by decide⟩
theorem compareQ (a b c d : Int) (w : World) :
    Calls Try.prog 85 #[.agg #[.int .i64 a, .int .i64 b], .agg #[.int .i64 c, .int .i64 d]] w fun e w' => e = .returned (.int .i64 (cmpE a b c d)) ∧ Below w.heap.size w w' := by
  have H1 := cmpE_eq a b c d
  obtain ⟨p, hp⟩ : ∃ p : Int, p = (if a < c then (-1 : Int) else if c < a then 1 else 0) := ⟨_, rfl⟩
  obtain ⟨q, hq⟩ : ∃ p : Int, p = (if b < d then (-1 : Int) else if d < b then 1 else 0) := ⟨_, rfl⟩
  rw [← hp, ← hq] at H1
  obtain ⟨r, hr⟩ : ∃ r : Int, r = if p = 0 then q else p := ⟨_, rfl⟩
  have C1 := fun W => cmpInt a c W
  have C2 := fun W => cmpInt b d W
  have C3 := fun g W h0 h1 => or2 p q g W h0 h1
  rw [← hp] at C1
  rw [← hq] at C2
  rw [← hr] at C3 H1
  clear hp hq hr
  rw [← H1]
  clear H1
  go_enter Try.func85, Try.ntmps85
  go_wp2_with fail
  refine wp_tail 10 (by kernel_rfl) (by kernel_rfl) ?_
  simp only [List.take_succ_cons, List.take_zero, List.drop_succ_cons, List.drop_zero]
  repeat (first | still_step | (refine wpStill_step (fun K hK => ?_); go_simp; with_reducible refine ⟨_, flip_w (C1 _), hK _ ?_⟩; clear hK K)  | (refine wpStill_step (fun K hK => ?_); go_simp; with_reducible refine ⟨_, flip_w (C2 _), hK _ ?_⟩; clear hK K))
  refine wpStill_nil ?_
  clear C1 C2
  go_wp2_with fail
  with_reducible refine (C3 _ _ ?_ ?_).mono ?_
  · simp [go_sem]
  · simp [go_sem]
  rintro e w' ⟨rfl, rfl⟩
  clear C3
  go_wp2_with fail
  go_ret
  exact ⟨rfl, by go_grown⟩


theorem lenQ (A : Option Addr) (n c : Nat) (w : World) : Calls Try.prog 158 #[.slice A n c] w fun e w' => e = .returned (.int .i64 (n : Int)) ∧ w = w' := by
  go_enter Try.func158, Try.ntmps158
  go_wp2
  go_ret
  simp

theorem lessQ (es : List PE) (i j : Nat) (x y : PE) (hi : es[i]? = some x) (hj : es[j]? = some y) (A : Option Addr) (c : Nat) (w : World) (hr : Reads w A (pcells es)) (hc : es.length ≤ c) (hm : es.length ≤ 4611686018427387903) :
    Calls Try.prog 159 #[.slice A es.length c, .int .i64 i, .int .i64 j] w fun e w' => e = .returned (.bool (decide (cmpE x.1 x.2 y.1 y.2 < 0))) ∧ Below w.heap.size w w' := by
  obtain ⟨b, o, rfl, hbl, e1, e2⟩ := hr.pair' i x hi
  obtain ⟨b', o', hbo, _, e3, e4⟩ := hr.pair' j y hj
  obtain ⟨rfl, rfl⟩ : b' = b ∧ o' = o := by simpa using hbo.symm
  have h1 := (List.getElem?_eq_some_iff.1 hi).1
  have h2 := (List.getElem?_eq_some_iff.1 hj).1
  have i1 : (i : Int) < (es.length : Int) := by omega
  have i2 : (j : Int) < (es.length : Int) := by omega
  have HC := fun W => compareQ x.1 x.2 y.1 y.2 W
  generalize cmpE x.1 x.2 y.1 y.2 = cp at HC ⊢
  clear hr hbo hi hj
  go_enter Try.func159, Try.ntmps159
  (go_wp2_with fail
   refine wp_quiet_tail 8 (by kernel_rfl) (by kernel_rfl) ?_
   simp only [List.take_succ_cons, List.take_zero, List.drop_succ_cons, List.drop_zero]
   repeat (go_big_quiet_step (fail))
   refine wpQuiet_nil ?_
   intro _ hw'
   obtain ⟨nq, hw''⟩ := hw'
   subst hw'')
  go_wp2_with (go_at_call 85; refine (HC _).mono ?_; rintro e w1 ⟨rfl, hb1⟩)
  go_ret
  exact ⟨rfl, Below.trans (by (repeat (first | with_reducible exact Below.refl _ _ | with_reducible assumption | with_reducible refine below_drewN0 ?_ _ | with_reducible refine Below.drew ?_ | with_reducible refine Below.alloc ?_ ?_ _ | with_reducible refine Below.setCell ?_ ?_ _ | go_size | exact Below.size (by assumption)))) (hb1.mono (by simp))⟩

theorem grown_set (w : World) (g o : Nat) (u : Value) : w.grownBy (w.setCell ⟨g, o, none⟩ u) (some g) :=
  ⟨rfl, rfl, rfl, by simp [World.setCell], fun k hk hne => Below.heap_setCell w ⟨g, o, none⟩ u k (fun e => hne (by simp [e]))⟩
theorem grown_trans {a b c : World} {r : Option Nat} (h : a.grownBy b r) (k : b.grownBy c r) : a.grownBy c r :=
  ⟨k.os.trans h.os, k.tape.trans h.tape, k.output.trans h.output, Nat.le_trans h.size k.size, fun i hi hne => (k.block i (Nat.lt_of_lt_of_le hi h.size) hne).trans (h.block i hi hne)⟩
theorem grown_drew {a b : World} {r : Option Nat} (h : a.grownBy b r) : a.grownBy b.drew r := ⟨h.os, h.tape, h.output, h.size, h.block⟩

theorem swapQ (es : List PE) (i j : Nat) (x y : PE) (hi : es[i]? = some x) (hj : es[j]? = some y) (B g c : Nat) (w : World) (ho : w.ownsRow B 39 2 (.slice (some ⟨g, 0, none⟩) es.length c) es.length (pcells es)) (hm : es.length ≤ 4611686018427387903) :
    Calls Try.prog 160 #[.slice (some ⟨g, 0, none⟩) es.length c, .int .i64 i, .int .i64 j] w fun e w' => e = .returned (.tuple #[]) ∧ w'.ownsRow B 39 2 (.slice (some ⟨g, 0, none⟩) es.length c) es.length (pcells (swapL es i j)) ∧ w.grownBy w' (some g) := by
  have h1 := (List.getElem?_eq_some_iff.1 hi).1
  have h2 := (List.getElem?_eq_some_iff.1 hj).1
  obtain ⟨g', c', hv, hnc, hBg, hgl, hcell, hfz⟩ := own_block ho (by omega)
  obtain ⟨rfl, rfl⟩ : g' = g ∧ c' = c := by simpa using hv.symm
  have i1 : (i : Int) < (es.length : Int) := by omega
  have i2 : (j : Int) < (es.length : Int) := by omega
  have e1 := hcell _ _ (pcells_get es i x hi).1
  have e2 := hcell _ _ (pcells_get es i x hi).2
  have e3 := hcell _ _ (pcells_get es j y hj).1
  have e4 := hcell _ _ (pcells_get es j y hj).2
  rw [Nat.mul_comm] at e1 e2 e3 e4
  have z1 := hfz (i * 2)
  have z2 := hfz (i * 2 + 1)
  have z3 := hfz (j * 2)
  have z4 := hfz (j * 2 + 1)
  have HO := Lib.hid ho
  have HI := Lib.hid hi
  have HJ := Lib.hid hj
  clear ho hi hj hcell hfz hv
  by_cases hij : i = j
  · subst hij
    have hxy : x = y := by have := HI.out; rw [HJ.out] at this; exact (Option.some.inj this).symm
    subst hxy
    go_enter Try.func160, Try.ntmps160
    go_wp2_with fail
    go_region
    all_goals
      go_wp2_with fail
      go_end0
      have ho := own_write (own_write (own_write (own_write HO.out (i * 2) (by rw [pcells_length]; omega) (.int .i64 x.1)) (i * 2 + 1) (by simp [pcells_length]; omega) (.int .i64 x.2)) (i * 2) (by simp [pcells_length]; omega) (.int .i64 x.1)) (i * 2 + 1) (by simp [pcells_length]; omega) (.int .i64 x.2)
      have hx0 : es.set i x = es := by
        apply List.ext_getElem?
        intro k
        rw [List.getElem?_set]
        by_cases e : i = k
        · subst e; rw [HI.out]; simp [h1]
        · rw [if_neg e]
      rw [pcells_set0 _ _ _ _ x.1 HI.out, pcells_set1 _ _ x.1 x.2 x.2 (by simp [h1]), List.set_set, hx0, pcells_set0 _ _ _ _ x.1 HI.out, pcells_set1 _ _ x.1 x.2 x.2 (by simp [h1]), List.set_set, hx0] at ho
      have hsw : swapL es i i = es := by rw [swapL_eq HI.out HI.out, List.set_set]; exact hx0
      refine ⟨rfl, ?_, ?_⟩
      · rw [hsw]; first | exact ho | exact own_far ho (fun _ _ => rfl)
      · exact grown_drew (grown_trans (grown_trans (grown_trans (grown_set _ _ _ _) (grown_set _ _ _ _)) (grown_set _ _ _ _)) (grown_set _ _ _ _))
  · have n1 : ¬ (i * 2 = j * 2) := by omega
    have n2 : ¬ (i * 2 + 1 = j * 2) := by omega
    have n3 : ¬ (i * 2 = j * 2 + 1) := by omega
    have n4 : ¬ (i * 2 + 1 = j * 2 + 1) := by omega
    go_enter Try.func160, Try.ntmps160
    go_wp2_with fail
    go_region
    all_goals
      go_wp2_with fail
      go_end0
      have ho := own_write (own_write (own_write (own_write HO.out (i * 2) (by rw [pcells_length]; omega) (.int .i64 y.1)) (i * 2 + 1) (by simp [pcells_length]; omega) (.int .i64 y.2)) (j * 2) (by simp [pcells_length]; omega) (.int .i64 x.1)) (j * 2 + 1) (by simp [pcells_length]; omega) (.int .i64 x.2)
      rw [pcells_set0 _ _ _ _ y.1 HI.out, pcells_set1 _ _ y.1 x.2 y.2 (by simp [h1]), List.set_set, pcells_set0 _ j y.1 y.2 x.1 (by rw [List.getElem?_set, if_neg hij]; exact HJ.out), pcells_set1 _ j x.1 y.2 x.2 (by simp [h2]), List.set_set] at ho
      refine ⟨rfl, ?_, ?_⟩
      · rw [swapL_eq HI.out HJ.out]; first | exact ho | exact own_far ho (fun _ _ => rfl)
      · exact grown_drew (grown_trans (grown_trans (grown_trans (grown_set _ _ _ _) (grown_set _ _ _ _)) (grown_set _ _ _ _)) (grown_set _ _ _ _))
end Go.Proofs.Ytglhdoibglafbaa
