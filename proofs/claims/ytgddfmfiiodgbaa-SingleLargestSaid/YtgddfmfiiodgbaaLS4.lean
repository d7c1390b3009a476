/- SingleLargest, walked. -/
import Derived.Test.YtgddfmfiiodgbaaU33
import Derived.Test.YtgddfmfiiodgbaaU31
import Derived.Test.YtgddfmfiiodgbaaU36
namespace Go.Proofs.Ytgddfmfiiodgbaa
open Go Go.RowKit
set_option maxRecDepth 100000
set_option linter.unusedVariables false
set_option linter.unusedSimpArgs false

set_option maxHeartbeats 4000000 in
theorem slargest_any (n0 : Int) (ends : List Int) (Ae : Option Addr) (ce : Nat) (w : World) (hn1 : -9223372036854775808 ≤ n0) (hn2 : n0 ≤ 9223372036854775807)
    (hre : Reads w Ae (icells ends)) (hce : ends.length ≤ ce) (hme : ends.length ≤ 4611686018427387903) :
    Calls Try.prog 3 #[.int .i64 n0, .slice Ae ends.length ce] w fun e w' => e = .returned (.bool true) ∧ Below w.heap.size w w' := by
  have HSM := small_any n0 11 40 ends Ae ce w (by omega) (by omega) (by omega) (by omega) hn1 hn2 hre hce hme
  clear hn1 hn2 hre
  go_enter Try.func3, Try.ntmps3
  go_upto_region 2 with (go_at_call 31; (refine HSM.mono ?_; rintro e w1 ⟨n1, es, A, c, rfl, hP, hn, hes, hc, hrd, hb1⟩))
  obtain ⟨n, rfl⟩ : ∃ n : Nat, n1 = (n : Int) := ⟨n1.toNat, by have := hP.n0; omega⟩
  have hR := (right_iff _ _).2 hP
  have hX1 := Box2.new hb1 (.int .i64 (n : Int)) (.slice A es.length c) 25
  have hrd1 := hrd.below ((Below.refl w1.heap.size w1).alloc (Nat.le_refl _) (.cells #[Value.int IntKind.i64 (n : Int), Value.slice A es.length c] 25))
  generalize w1.alloc (.cells #[Value.int IntKind.i64 (n : Int), Value.slice A es.length c] 25) = w2 at hX1 hrd1 ⊢
  have HLA := largest_yes n es A c w2 hrd1 hc hR
  have c0 := hX1.c0
  have c1 := hX1.c1
  have HP := Lib.hid hP
  clear hrd hb1 hP hR HSM
  go_upto_region 3 with (go_at_call 32; (refine HLA.mono ?_; rintro e w3 ⟨M, mA, g, r, k, rfl, hM, hno, hRO, _, _, hr, hk, hb3⟩))
  have hE3 := Box2.new (hX1.go hb3).below (.int .i64 (r : Int)) (.int .i64 (k : Int)) 28
  have hX4 := (hX1.go hb3).old (.cells #[Value.int IntKind.i64 (r : Int), Value.int IntKind.i64 (k : Int)] 28)
  have hrd4 := (hrd1.below hb3).below ((Below.refl w3.heap.size w3).alloc (Nat.le_refl _) (.cells #[Value.int IntKind.i64 (r : Int), Value.int IntKind.i64 (k : Int)] 28))
  have hrm4 := hRO.reads.below ((Below.refl w3.heap.size w3).alloc (Nat.le_refl _) (.cells #[Value.int IntKind.i64 (r : Int), Value.int IntKind.i64 (k : Int)] 28))
  generalize w3.alloc (.cells #[Value.int IntKind.i64 (r : Int), Value.int IntKind.i64 (k : Int)] 28) = w4 at hE3 hX4 hrd4 hrm4 ⊢
  obtain ⟨b5, hb5⟩ : ∃ b, b = w1.heap.size := ⟨_, rfl⟩
  obtain ⟨b7, hb7⟩ : ∃ b, b = w3.heap.size := ⟨_, rfl⟩
  rw [← hb5] at hX4 ⊢
  rw [← hb7] at hE3 ⊢
  have x0 := hX4.c0
  have x1 := hX4.c1
  have y0 := hE3.c0
  have y1 := hE3.c1
  have HS : Hid (∀ W', Below w4.heap.size w4 W' → W'.cell? ⟨b5, 0, none⟩ = some (.int .i64 (n : Int)) ∧ W'.cell? ⟨b5, 1, none⟩ = some (.slice A es.length c) ∧ W'.cell? ⟨b7, 0, none⟩ = some (.int .i64 (r : Int)) ∧ W'.cell? ⟨b7, 1, none⟩ = some (.int .i64 (k : Int))) :=
    fun W' h => ⟨(hX4.go h).c0, (hX4.go h).c1, (hE3.go h).c0, (hE3.go h).c1⟩
  have HRD := Lib.hid (fun (W' : World) (h : Below w4.heap.size w4 W') => (⟨hrd4.below h, hrm4.below h⟩ : Reads W' A (pcells es) ∧ Reads W' mA (icells (mateL n M))))
  have HMR := fun (W : World) (h : Reads W A (pcells es) ∧ Reads W mA (icells (mateL n M))) => rmright_mat A mA c n W h.1 hc HP.out hM h.2
  have HMS := fun (W : World) (h : Reads W A (pcells es) ∧ Reads W mA (icells (mateL n M))) => msize_any hM mA n W h.2 (by omega)
  have HNB := fun (W : World) (h : Reads W A (pcells es) ∧ Reads W mA (icells (mateL n M))) => number_of HP.out (by omega) A c W h.1 hc hM hno
  have HBW := Lib.hid hX4.below
  have q1 : decide ((0 : Int) ≤ (r : Int)) = true := decide_eq_true (by omega)
  have q2 : decide ((r : Int) ≤ (n : Int) + 1) = true := decide_eq_true (by omega)
  have q3 : decide ((0 : Int) ≤ (k : Int)) = true := decide_eq_true (by omega)
  have q4 : decide ((k : Int) ≤ 8 * (es.length : Int)) = true := decide_eq_true (by omega)
  have j4 : IntKind.i64.wrap ((n : Int) + 1) = (n : Int) + 1 := by rw [IntKind.wrap_i64]; omega
  have j5 : IntKind.i64.wrap (8 * (es.length : Int)) = 8 * (es.length : Int) := by rw [IntKind.wrap_i64]; omega
  clear hX4 hE3 hX1 hrd1 hrd4 hrm4 hRO hb3 hb5 hb7 hno hM c0 c1 HLA
  go_region_held3 (fun W' => W'.cell? ⟨b5, 0, none⟩ = some (.int .i64 (n : Int)) ∧ W'.cell? ⟨b5, 1, none⟩ = some (.slice A es.length c) ∧ W'.cell? ⟨b7, 0, none⟩ = some (.int .i64 (r : Int)) ∧ W'.cell? ⟨b7, 1, none⟩ = some (.int .i64 (k : Int)))
    (first | exact ⟨x0, x1, y0, y1⟩ | (refine HS.out _ ?_; (repeat (first | with_reducible exact Below.refl _ _ | with_reducible assumption | with_reducible refine below_drewN0 ?_ _ | with_reducible refine Below.drew ?_ | with_reducible refine Below.alloc ?_ ?_ _ | with_reducible refine Below.setCell ?_ ?_ _ | go_size | exact Below.size (by assumption))); done))
    (first
      | (go_at_call 33; refine (awake11 _).mono ?_; rintro e w5 ⟨rfl, hb5'⟩; have hb5 := below_on (a := w4) (by (repeat (first | with_reducible exact Below.refl _ _ | with_reducible assumption | with_reducible refine below_drewN0 ?_ _ | with_reducible refine Below.drew ?_ | with_reducible refine Below.alloc ?_ ?_ _ | with_reducible refine Below.setCell ?_ ?_ _ | go_size | exact Below.size (by assumption)))) hb5')
      | (go_at_call 34; refine (HMR _ (HRD.out _ ?_)).mono ?_; (repeat (first | with_reducible exact Below.refl _ _ | with_reducible assumption | with_reducible refine below_drewN0 ?_ _ | with_reducible refine Below.drew ?_ | with_reducible refine Below.alloc ?_ ?_ _ | with_reducible refine Below.setCell ?_ ?_ _ | go_size | exact Below.size (by assumption))); rintro e w6 ⟨rfl, hb6'⟩; have hb6 := below_on (a := w4) (by (repeat (first | with_reducible exact Below.refl _ _ | with_reducible assumption | with_reducible refine below_drewN0 ?_ _ | with_reducible refine Below.drew ?_ | with_reducible refine Below.alloc ?_ ?_ _ | with_reducible refine Below.setCell ?_ ?_ _ | go_size | exact Below.size (by assumption)))) hb6')
      | (go_at_call 35; refine (HMS _ (HRD.out _ ?_)).mono ?_; (repeat (first | with_reducible exact Below.refl _ _ | with_reducible assumption | with_reducible refine below_drewN0 ?_ _ | with_reducible refine Below.drew ?_ | with_reducible refine Below.alloc ?_ ?_ _ | with_reducible refine Below.setCell ?_ ?_ _ | go_size | exact Below.size (by assumption))); rintro e w7 ⟨rfl, hb7'⟩; have hb7 := below_on (a := w4) (by (repeat (first | with_reducible exact Below.refl _ _ | with_reducible assumption | with_reducible refine below_drewN0 ?_ _ | with_reducible refine Below.drew ?_ | with_reducible refine Below.alloc ?_ ?_ _ | with_reducible refine Below.setCell ?_ ?_ _ | go_size | exact Below.size (by assumption)))) hb7')
      | (go_at_call 36; refine (HNB _ (HRD.out _ ?_)).mono ?_; (repeat (first | with_reducible exact Below.refl _ _ | with_reducible assumption | with_reducible refine below_drewN0 ?_ _ | with_reducible refine Below.drew ?_ | with_reducible refine Below.alloc ?_ ?_ _ | with_reducible refine Below.setCell ?_ ?_ _ | go_size | exact Below.size (by assumption))); rintro e w8 ⟨rfl, hb8'⟩; have hb8 := below_on (a := w4) (by (repeat (first | with_reducible exact Below.refl _ _ | with_reducible assumption | with_reducible refine below_drewN0 ?_ _ | with_reducible refine Below.drew ?_ | with_reducible refine Below.alloc ?_ ?_ _ | with_reducible refine Below.setCell ?_ ?_ _ | go_size | exact Below.size (by assumption)))) hb8'))
  go_wp2_with fail
  go_ret
  exact ⟨rfl, HBW.out.trans ((show Below w4.heap.size w4 _ by (repeat (first | with_reducible exact Below.refl _ _ | with_reducible assumption | with_reducible refine below_drewN0 ?_ _ | with_reducible refine Below.drew ?_ | with_reducible refine Below.alloc ?_ ?_ _ | with_reducible refine Below.setCell ?_ ?_ _ | go_size | exact Below.size (by assumption)))).mono HBW.out.size)⟩
end Go.Proofs.Ytgddfmfiiodgbaa
