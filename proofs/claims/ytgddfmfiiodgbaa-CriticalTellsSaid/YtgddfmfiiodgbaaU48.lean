/- CriticalRefuses, walked. -/
import Derived.Test.YtgddfmfiiodgbaaU47
namespace Go.Proofs.Ytgddfmfiiodgbaa
open Go Go.RowKit
set_option maxRecDepth 100000
set_option linter.unusedVariables false
set_option linter.unusedSimpArgs false

theorem missing_out (n v : Int) (es : List (Int × Int)) (A : Option Addr) (c : Nat) (w : World) (hr : Reads w A (pcells es)) (hc : es.length ≤ c) (hm : es.length ≤ 4611686018427387903) :
    Calls Try.prog 53 #[.agg #[.int .i64 n, .slice A es.length c], .int .i64 v] w fun e w' => ∃ mA ml mc err, e = .returned (.tuple #[.slice mA ml mc, .int .i64 err]) ∧ Hid ((rightB n es = false → err = 3 ∧ ml = 0) ∧ (rightB n es = true → err ≠ 3)) ∧ Below w.heap.size w w' := by
  by_cases he : misErr n es v = 0
  · have hR : rightB n es = true := by
      unfold misErr at he
      cases hR : rightB n es with
      | true => rfl
      | false => rw [hR, if_pos rfl] at he; omega
    have hv : 0 ≤ v ∧ v < n := by
      unfold misErr at he
      rw [if_neg (by rw [hR]; simp)] at he
      by_cases h : v < 0 ∨ n ≤ v
      · rw [if_pos h] at he; omega
      · omega
    have hP := (right_iff _ _).1 hR
    obtain ⟨k, rfl⟩ : ∃ k : Nat, n = (k : Int) := ⟨n.toNat, by omega⟩
    obtain ⟨u, rfl⟩ : ∃ u : Nat, v = (u : Int) := ⟨v.toNat, by omega⟩
    refine (missing_any hP (by omega) A c w hr hc).mono ?_
    rintro e w' (⟨M, B, rfl, _, _, _, _, _, hb⟩ | ⟨_, rfl, hb⟩)
    · exact ⟨_, _, _, _, rfl, ⟨fun h => (by rw [hR] at h; cases h), fun _ => (by omega)⟩, hb⟩
    · exact ⟨_, _, _, _, rfl, ⟨fun h => (by rw [hR] at h; cases h), fun _ => (by omega)⟩, hb⟩
  · refine (missing_bad n v es A c w hr hc hm he).mono ?_
    rintro e w' ⟨rfl, hb⟩
    refine ⟨_, _, _, _, rfl, ⟨fun h => ⟨by unfold misErr; rw [if_pos h], rfl⟩, fun h => ?_⟩, hb⟩
    unfold misErr
    rw [if_neg (by rw [h]; simp)]
    split <;> omega

set_option maxHeartbeats 2000000 in
theorem crefuses_any (n v : Int) (es : List (Int × Int)) (A : Option Addr) (c : Nat) (w : World) (hr : Reads w A (pcells es)) (hc : es.length ≤ c) (hm : es.length ≤ 4611686018427387903) :
    Calls Try.prog 15 #[.agg #[.int .i64 n, .slice A es.length c], .int .i64 v] w fun e w' => e = .returned (.bool true) ∧ Below w.heap.size w w' := by
  have HA := fun W => awake15 W
  by_cases hbig : 60 < es.length ∨ 60 < n
  · have hcase : (60 < es.length) ∨ (¬ 60 < es.length ∧ 60 < n) := by omega
    clear hbig hr
    rcases hcase with h1 | ⟨h1, h2⟩
    · have d1 : decide ((60 : Int) < (es.length : Int)) = true := decide_eq_true (by omega)
      go_enter Try.func15, Try.ntmps15
      go_wp2_with (go_at_call 54; refine (HA _).mono ?_; rintro e w1 ⟨rfl, hb1⟩)
      go_ret
      exact ⟨rfl, Below.trans (by (repeat (first | with_reducible exact Below.refl _ _ | with_reducible assumption | with_reducible refine below_drewN0 ?_ _ | with_reducible refine Below.drew ?_ | with_reducible refine Below.alloc ?_ ?_ _ | with_reducible refine Below.setCell ?_ ?_ _ | go_size | exact Below.size (by assumption)))) (hb1.mono (by simp))⟩
    · have d1 : decide ((60 : Int) < (es.length : Int)) = false := decide_eq_false (by omega)
      have d2 : decide ((60 : Int) < n) = true := decide_eq_true h2
      go_enter Try.func15, Try.ntmps15
      go_wp2_with (go_at_call 54; refine (HA _).mono ?_; rintro e w1 ⟨rfl, hb1⟩)
      go_ret
      exact ⟨rfl, Below.trans (by (repeat (first | with_reducible exact Below.refl _ _ | with_reducible assumption | with_reducible refine below_drewN0 ?_ _ | with_reducible refine Below.drew ?_ | with_reducible refine Below.alloc ?_ ?_ _ | with_reducible refine Below.setCell ?_ ?_ _ | go_size | exact Below.size (by assumption)))) (hb1.mono (by simp))⟩
  · have d1 : decide ((60 : Int) < (es.length : Int)) = false := decide_eq_false (by omega)
    have d2 : decide ((60 : Int) < n) = false := decide_eq_false (by omega)
    have HMI := fun (W : World) (h : Reads W A (pcells es)) => missing_out n v es A c W h hc hm
    have HRR := fun (W : World) (h : Reads W A (pcells es)) => refRight n es A c W h hc hm
    have HIS := fun (W : World) (h : Reads W A (pcells es)) => is_any n es A c W h hc hm
    have HR := Lib.hid hr
    have hodd : critB n es = true → n.tmod 2 = 1 := fun h => by
      have hP : RightP n es := by
        cases hR : rightB n es with
        | true => exact (right_iff _ _).1 hR
        | false =>
          have : critB n es = false := by
            unfold critB
            rw [decide_eq_false_iff_not]
            exact fun h => (by rw [(right_iff _ _).2 h.1] at hR; cases hR)
          rw [this] at h; cases h
      obtain ⟨k, rfl⟩ : ∃ k : Nat, n = (k : Int) := ⟨n.toNat, by have := hP.n0; omega⟩
      have := (critB_iff.1 h).2.odd (right_gr hP)
      rw [Int.tmod_eq_emod_of_nonneg (by omega)]
      omega
    have hwr : rightB n es = false → critB n es = false := fun h => by
      unfold critB
      rw [decide_eq_false_iff_not]
      exact fun h' => by rw [(right_iff _ _).2 h'.1] at h; cases h
    generalize critB n es = cb at HIS hodd hwr
    have HOD := Lib.hid (And.intro hodd hwr)
    clear hr hbig hodd hwr
    go_enter Try.func15, Try.ntmps15
    go_upto_region 1 with fail
    (have hX1 := Box2.new (Below.refl w.heap.size w) (Value.int IntKind.i64 n) (Value.slice A es.length c) 25
     generalize w.alloc (Obj.cells #[Value.int IntKind.i64 n, Value.slice A es.length c] 25) = w1 at hX1 ⊢
     have c0 := hX1.c0
     have c1 := hX1.c1)
    have HM1 := HMI w1 (HR.out.below hX1.below)
    have HX1 := Lib.hid hX1
    clear HMI hX1
    go_upto_region 4 with (go_at_call 53; (refine HM1.mono ?_; rintro e w2 ⟨mA, ml, mc, err, rfl, hD, hb2⟩))
    have hX2 := HX1.out.go hb2
    have HX2 := Lib.hid hX2
    have x0 := hX2.c0
    have x1 := hX2.c1
    have HR2 := HRR w2 (HR.out.below hX2.below)
    clear c0 c1 hX2 HRR hb2 HM1
    generalize rightB n es = rb at HR2 hD HOD
    cases rb with
    | true =>
      have he : err ≠ 3 := hD.out.2 rfl
      have j1 : (err == 3) = false := by rw [beq_eq_false_iff_ne]; exact he
      have j2 : (err != 3) = true := by simp [he]
      have j3 : decide (err = 3) = false := decide_eq_false he
      go_upto_region 5 with (go_at_call 44; (refine HR2.mono ?_; rintro e w3 ⟨rfl, hb3⟩))
      have hX3 := HX2.out.go hb3
      have y0 := hX3.c0
      have y1 := hX3.c1
      have HX3 := Lib.hid hX3
      clear hX3 hb3 x0 x1 HR2
      cases cb with
      | true =>
        have ho : n.tmod 2 = 1 := HOD.out.1 rfl
        go_wp2_with (first
          | (go_at_call 54; refine (HA _).mono ?_; rintro e w4 ⟨rfl, hb4⟩; have hX4 := HX3.out.go hb4; have z0 := hX4.c0; have z1 := hX4.c1)
          | (go_at_call 55; refine (HIS _ (HR.out.below hX4.below)).mono ?_; rintro e w5 ⟨rfl, hb5⟩; have hX5 := hX4.go hb5; have u0 := hX5.c0))
        go_ret
        exact ⟨by simp, hX5.below⟩
      | false =>
        go_wp2_with (first
          | (go_at_call 54; refine (HA _).mono ?_; rintro e w4 ⟨rfl, hb4⟩; have hX4 := HX3.out.go hb4; have z0 := hX4.c0; have z1 := hX4.c1)
          | (go_at_call 55; refine (HIS _ (HR.out.below hX4.below)).mono ?_; rintro e w5 ⟨rfl, hb5⟩; have hX5 := hX4.go hb5))
        go_ret
        exact ⟨by simp, hX5.below⟩
    | false =>
      obtain ⟨rfl, rfl⟩ := hD.out.1 rfl
      obtain rfl := HOD.out.2 rfl
      go_upto_region 6 with (go_at_call 44; (refine HR2.mono ?_; rintro e w3 ⟨rfl, hb3⟩))
      have hX3 := HX2.out.go hb3
      have y0 := hX3.c0
      have y1 := hX3.c1
      have HX3 := Lib.hid hX3
      clear hX3 hb3 x0 x1 HR2
      go_wp2_with (first
        | (go_at_call 54; refine (HA _).mono ?_; rintro e w4 ⟨rfl, hb4⟩; have hX4 := HX3.out.go hb4; have z0 := hX4.c0; have z1 := hX4.c1)
        | (go_at_call 55; refine (HIS _ (HR.out.below hX4.below)).mono ?_; rintro e w5 ⟨rfl, hb5⟩; have hX5 := hX4.go hb5))
      go_ret
      exact ⟨by simp, hX5.below⟩
end Go.Proofs.Ytgddfmfiiodgbaa
