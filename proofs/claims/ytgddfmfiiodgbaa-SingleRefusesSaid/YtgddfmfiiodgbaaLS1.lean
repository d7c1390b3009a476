/- SingleRefuses, walked. -/
import Derived.Test.YtgddfmfiiodgbaaU29
import Derived.Test.YtgddfmfiiodgbaaU30
import Derived.Test.YtgddfmfiiodgbaaU27
namespace Go.Proofs.Ytgddfmfiiodgbaa
open Go Go.RowKit
set_option maxRecDepth 100000
set_option linter.unusedVariables false
set_option linter.unusedSimpArgs false

set_option maxHeartbeats 4000000 in
theorem refuses_any (n : Int) (es : List (Int × Int)) (l : List Int) (A mA : Option Addr) (c mc : Nat) (w : World) (hr : Reads w A (pcells es)) (hc : es.length ≤ c) (hm : es.length ≤ 4611686018427387903) (hrm : Reads w mA (icells l)) (hmc : l.length ≤ mc) (hml : l.length ≤ 4611686018427387903) :
    Calls Try.prog 5 #[.agg #[.int .i64 n, .slice A es.length c], .slice mA l.length mc] w fun e w' => e = .returned (.bool true) ∧ Below w.heap.size w w' := by
  have HAW := fun W => awake11 W
  have HR := Lib.hid hr
  have HRM := Lib.hid hrm
  by_cases hbig : 60 < es.length ∨ 60 < n ∨ 60 < l.length
  · clear hr hrm
    by_cases h1 : 60 < es.length
    · have i1 : (60 : Int) < (es.length : Int) := by omega
      clear hbig
      go_enter Try.func5, Try.ntmps5
      go_upto_region 1 with fail
      (have hX1 := Box2.new (Below.refl w.heap.size w) (Value.int IntKind.i64 n) (Value.slice A es.length c) 25
       generalize w.alloc (Obj.cells #[Value.int IntKind.i64 n, Value.slice A es.length c] 25) = w1 at hX1 ⊢
       have c0 := hX1.c0
       have c1 := hX1.c1)
      go_wp2_with (go_at_call 33; (refine (HAW w1).mono ?_; rintro e w2 ⟨rfl, hb2⟩))
      go_ret
      exact ⟨rfl, (hX1.go hb2).below⟩
    · have i1 : ¬ (60 : Int) < (es.length : Int) := by omega
      by_cases h2 : 60 < n
      · clear hbig
        go_enter Try.func5, Try.ntmps5
        go_upto_region 1 with fail
        (have hX1 := Box2.new (Below.refl w.heap.size w) (Value.int IntKind.i64 n) (Value.slice A es.length c) 25
         generalize w.alloc (Obj.cells #[Value.int IntKind.i64 n, Value.slice A es.length c] 25) = w1 at hX1 ⊢
         have c0 := hX1.c0
         have c1 := hX1.c1)
        go_wp2_with (go_at_call 33; (refine (HAW w1).mono ?_; rintro e w2 ⟨rfl, hb2⟩))
        go_ret
        exact ⟨rfl, (hX1.go hb2).below⟩
      · have i3 : (60 : Int) < (l.length : Int) := by omega
        clear hbig
        go_enter Try.func5, Try.ntmps5
        go_upto_region 1 with fail
        (have hX1 := Box2.new (Below.refl w.heap.size w) (Value.int IntKind.i64 n) (Value.slice A es.length c) 25
         generalize w.alloc (Obj.cells #[Value.int IntKind.i64 n, Value.slice A es.length c] 25) = w1 at hX1 ⊢
         have c0 := hX1.c0
         have c1 := hX1.c1)
        go_wp2_with (go_at_call 33; (refine (HAW w1).mono ?_; rintro e w2 ⟨rfl, hb2⟩))
        go_ret
        exact ⟨rfl, (hX1.go hb2).below⟩
  · have i1 : ¬ (60 : Int) < (es.length : Int) := by omega
    have i2 : ¬ (60 : Int) < n := by omega
    have i3 : ¬ (60 : Int) < (l.length : Int) := by omega
    clear hbig
    cases hR : rightB n es with
    | false =>
      have HPN := fun (W : World) (h : Reads W A (pcells es)) => path_no n es A mA c l.length mc W h hc hm hR
      have HLN := fun (W : World) (h : Reads W A (pcells es)) => largest_no n es A c W h hc hm hR
      have HRR := fun (W : World) (h : Reads W A (pcells es)) => refRight n es A c W h hc hm
      rw [hR] at HRR
      clear hr hrm hR
      go_enter Try.func5, Try.ntmps5
      go_upto_region 1 with fail
      (have hX1 := Box2.new (Below.refl w.heap.size w) (Value.int IntKind.i64 n) (Value.slice A es.length c) 25
       generalize w.alloc (Obj.cells #[Value.int IntKind.i64 n, Value.slice A es.length c] 25) = w1 at hX1 ⊢
       have c0 := hX1.c0
       have c1 := hX1.c1)
      go_upto_region 4 with (go_at_call 39; (refine (HPN w1 (HR.out.below hX1.below)).mono ?_; rintro e w2 ⟨rfl, hb2⟩))
      (have hX2 := hX1.go hb2
       clear c0 c1 hb2
       have c0 := hX2.c0
       have c1 := hX2.c1)
      go_upto_region 5 with (go_at_call 32; (refine (HLN w2 (HR.out.below hX2.below)).mono ?_; rintro e w3 ⟨rfl, hb3⟩))
      have hX3 := (hX2.go hb3).old (Obj.cells #[Value.int IntKind.i64 0, Value.int IntKind.i64 0] 28)
      have hE3 := Box2.new (hX2.go hb3).below (Value.int IntKind.i64 0) (Value.int IntKind.i64 0) 28
      generalize w3.alloc (Obj.cells #[Value.int IntKind.i64 0, Value.int IntKind.i64 0] 28) = w4 at hX3 hE3 ⊢
      obtain ⟨b3, hb3'⟩ : ∃ b3, b3 = w3.heap.size := ⟨_, rfl⟩
      rw [← hb3'] at hE3 ⊢
      clear c0 c1 hb3 hb3'
      have c0 := hX3.c0
      have c1 := hX3.c1
      go_upto_region 8 with (go_at_call 44; (refine (HRR w4 (HR.out.below hX3.below)).mono ?_; rintro e w5 ⟨rfl, hb5⟩))
      have hE5 := hE3.go hb5
      (have hX5 := hX3.go hb5
       clear c0 c1 hb5
       have c0 := hX5.c0
       have c1 := hX5.c1)
      go_upto_region 10 with (go_at_call 33; (refine (HAW w5).mono ?_; rintro e w6 ⟨rfl, hb6⟩; have hE6 := hE5.go hb6; have e0 := hE6.c0; have e1 := hE6.c1))
      (have hX6 := hX5.go hb6
       clear c0 c1 hb6
       have c0 := hX6.c0
       have c1 := hX6.c1)
      go_wp2_with fail
      go_ret
      exact ⟨rfl, hX6.below⟩
    | true =>
      obtain ⟨N, rfl⟩ : ∃ N : Nat, n = (N : Int) := ⟨n.toNat, by have := ((right_iff _ _).1 hR).n0; omega⟩
      have HLY := fun (W : World) (h : Reads W A (pcells es)) => largest_yes N es A c W h hc hR
      have HRR := fun (W : World) (h : Reads W A (pcells es)) => refRight (N : Int) es A c W h hc hm
      rw [hR] at HRR
      by_cases hgood : l.length = N ∧ MateP N es l
      · have HPA := fun (W : World) (h : Reads W A (pcells es)) (h2 : Reads W mA (icells l)) => (show Calls Try.prog 39 #[.agg #[.int .i64 (N : Int), .slice A es.length c], .slice mA l.length mc] W fun e w' => ∃ p q, e = .returned (.tuple #[p, q, .int .i64 0]) ∧ Below W.heap.size W w' from by
          obtain ⟨hl, M, rfl, hM⟩ := hgood
          rw [hl] at hmc ⊢
          refine (path_yes N es A mA c mc M W h hc hR h2 hM hmc).mono ?_
          rintro e w' (⟨p, g, cg, rfl, _, _, _, hb⟩ | ⟨B, S, D, rfl, _, _, _, _, hb⟩)
          · exact ⟨_, _, rfl, hb⟩
          · exact ⟨_, _, rfl, hb⟩)
        have HRM8 := fun (W : World) (h : Reads W A (pcells es)) (h2 : Reads W mA (icells l)) => (show Calls Try.prog 34 #[.agg #[.int .i64 (N : Int), .slice A es.length c], .slice mA l.length mc] W fun e w' => e = .returned (.bool true) ∧ Below W.heap.size W w' from by
          obtain ⟨hl, hMP⟩ := hgood
          have h3 := rmright_yes N es A mA c mc l W h hc hR hl h2
          rw [hl]
          refine h3.mono ?_
          rintro e w' ⟨b, rfl, hb, hbl⟩
          rw [hb.2 hMP]
          exact ⟨rfl, hbl⟩)
        clear hr hrm hR hgood
        go_enter Try.func5, Try.ntmps5
        go_upto_region 1 with fail
        (have hX1 := Box2.new (Below.refl w.heap.size w) (Value.int IntKind.i64 (N : Int)) (Value.slice A es.length c) 25
         generalize w.alloc (Obj.cells #[Value.int IntKind.i64 (N : Int), Value.slice A es.length c] 25) = w1 at hX1 ⊢
         have c0 := hX1.c0
         have c1 := hX1.c1)
        go_upto_region 4 with (go_at_call 39; (refine (HPA w1 (HR.out.below hX1.below) (HRM.out.below hX1.below)).mono ?_; rintro e w2 ⟨p, q, rfl, hb2⟩))
        (have hX2 := hX1.go hb2
         clear c0 c1 hb2
         have c0 := hX2.c0
         have c1 := hX2.c1)
        go_upto_region 5 with (go_at_call 32; (refine (HLY w2 (HR.out.below hX2.below)).mono ?_; rintro e w3 ⟨M', mA', g', r', k', rfl, _, _, _, _, _, _, _, hb3⟩))
        have hX3 := (hX2.go hb3).old (Obj.cells #[Value.int IntKind.i64 (r' : Int), Value.int IntKind.i64 (k' : Int)] 28)
        generalize w3.alloc (Obj.cells #[Value.int IntKind.i64 (r' : Int), Value.int IntKind.i64 (k' : Int)] 28) = w4 at hX3 ⊢
        clear c0 c1 hb3
        have c0 := hX3.c0
        have c1 := hX3.c1
        go_upto_region 8 with (go_at_call 44; (refine (HRR w4 (HR.out.below hX3.below)).mono ?_; rintro e w5 ⟨rfl, hb5⟩))
        (have hX5 := hX3.go hb5
         clear c0 c1 hb5
         have c0 := hX5.c0
         have c1 := hX5.c1)
        go_upto_region 10 with (go_at_call 33; (refine (HAW w5).mono ?_; rintro e w6 ⟨rfl, hb6⟩))
        (have hX6 := hX5.go hb6
         clear c0 c1 hb6
         have c0 := hX6.c0
         have c1 := hX6.c1)
        go_upto_region 12 with (go_at_call 34; (refine (HRM8 w6 (HR.out.below hX6.below) (HRM.out.below hX6.below)).mono ?_; rintro e w7 ⟨rfl, hb7⟩))
        (have hX7 := hX6.go hb7
         clear c0 c1 hb7
         have c0 := hX7.c0
         have c1 := hX7.c1)
        go_wp2_with fail
        go_ret
        exact ⟨rfl, hX7.below⟩
      · have HPA := fun (W : World) (h : Reads W A (pcells es)) (h2 : Reads W mA (icells l)) => path_bad N es A mA c mc l W h hc hR h2 (fun h => hgood ⟨(mateP_to ((right_iff _ _).1 hR) h).1, h⟩)
        have HRM8 := fun (W : World) (h : Reads W A (pcells es)) (h2 : Reads W mA (icells l)) => (show Calls Try.prog 34 #[.agg #[.int .i64 (N : Int), .slice A es.length c], .slice mA l.length mc] W fun e w' => e = .returned (.bool false) ∧ Below W.heap.size W w' from by
          by_cases hl : l.length = N
          · have h3 := rmright_yes N es A mA c mc l W h hc hR hl h2
            rw [hl]
            refine h3.mono ?_
            rintro e w' ⟨b, rfl, hb, hbl⟩
            cases b with
            | true => exact absurd ⟨hl, hb.1 rfl⟩ hgood
            | false => exact ⟨rfl, hbl⟩
          · exact rmright_len N es A mA c l.length mc W h hc hm hR (by omega))
        clear hr hrm hR hgood
        go_enter Try.func5, Try.ntmps5
        go_upto_region 1 with fail
        (have hX1 := Box2.new (Below.refl w.heap.size w) (Value.int IntKind.i64 (N : Int)) (Value.slice A es.length c) 25
         generalize w.alloc (Obj.cells #[Value.int IntKind.i64 (N : Int), Value.slice A es.length c] 25) = w1 at hX1 ⊢
         have c0 := hX1.c0
         have c1 := hX1.c1)
        go_upto_region 4 with (go_at_call 39; (refine (HPA w1 (HR.out.below hX1.below) (HRM.out.below hX1.below)).mono ?_; rintro e w2 ⟨rfl, hb2⟩))
        (have hX2 := hX1.go hb2
         clear c0 c1 hb2
         have c0 := hX2.c0
         have c1 := hX2.c1)
        go_upto_region 5 with (go_at_call 32; (refine (HLY w2 (HR.out.below hX2.below)).mono ?_; rintro e w3 ⟨M', mA', g', r', k', rfl, _, _, _, _, _, _, _, hb3⟩))
        have hX3 := (hX2.go hb3).old (Obj.cells #[Value.int IntKind.i64 (r' : Int), Value.int IntKind.i64 (k' : Int)] 28)
        generalize w3.alloc (Obj.cells #[Value.int IntKind.i64 (r' : Int), Value.int IntKind.i64 (k' : Int)] 28) = w4 at hX3 ⊢
        clear c0 c1 hb3
        have c0 := hX3.c0
        have c1 := hX3.c1
        go_upto_region 8 with (go_at_call 44; (refine (HRR w4 (HR.out.below hX3.below)).mono ?_; rintro e w5 ⟨rfl, hb5⟩))
        (have hX5 := hX3.go hb5
         clear c0 c1 hb5
         have c0 := hX5.c0
         have c1 := hX5.c1)
        go_upto_region 10 with (go_at_call 33; (refine (HAW w5).mono ?_; rintro e w6 ⟨rfl, hb6⟩))
        (have hX6 := hX5.go hb6
         clear c0 c1 hb6
         have c0 := hX6.c0
         have c1 := hX6.c1)
        go_upto_region 12 with (go_at_call 34; (refine (HRM8 w6 (HR.out.below hX6.below) (HRM.out.below hX6.below)).mono ?_; rintro e w7 ⟨rfl, hb7⟩))
        (have hX7 := hX6.go hb7
         clear c0 c1 hb7
         have c0 := hX7.c0
         have c1 := hX7.c1)
        go_wp2_with fail
        go_ret
        exact ⟨rfl, hX7.below⟩
end Go.Proofs.Ytgddfmfiiodgbaa
