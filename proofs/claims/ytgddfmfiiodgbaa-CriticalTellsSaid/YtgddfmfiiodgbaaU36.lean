/- Walk of the reference's Number. -/
import Derived.Test.YtgddfmfiiodgbaaU35
namespace Go.Proofs.Ytgddfmfiiodgbaa
open Go Go.RowKit
set_option maxRecDepth 100000
set_option linter.unusedVariables false
set_option linter.unusedSimpArgs false

theorem below_on {a b c : World} (h : Below a.heap.size a b) (k : Below b.heap.size b c) : Below a.heap.size a c := h.trans (k.mono h.size)
set_option maxHeartbeats 1000000 in
theorem number_any {n : Nat} {es : List (Int × Int)} (hP : RightP n es) (hn : n ≤ 20) (A : Option Addr) (c : Nat) (w : World) (hr : Reads w A (pcells es)) (hc : es.length ≤ c) :
    Calls Try.prog 36 #[.agg #[.int .i64 (n : Int), .slice A es.length c]] w fun e w' => ∃ k : Nat, e = .returned (.int .i64 (k : Int)) ∧ IsMx n (adjE es) (fun _ => true) k ∧ Below w.heap.size w w' := by
  have HT := fun (W : World) (h : Reads W A (pcells es)) => table_any hP hn A c W h hc
  have HR := Lib.hid hr
  have h2n : 2 ^ n ≤ 2 ^ 20 := Nat.pow_le_pow_right (by omega) hn
  have h1n : 1 ≤ 2 ^ n := Nat.two_pow_pos n
  have hbt : ∀ v, v < n → (2 ^ n - 1).testBit v = true := fun v hv => by rw [Nat.testBit_two_pow_sub_one]; simp [hv]
  clear hr
  generalize 2 ^ n = N at HT h2n h1n hbt
  go_enter Try.func36, Try.ntmps36
  go_upto_region 1 with fail
  (have hX1 := Box2.new (Below.refl w.heap.size w) (Value.int IntKind.i64 (n : Int)) (Value.slice A es.length c) 25
   generalize w.alloc (Obj.cells #[Value.int IntKind.i64 (n : Int), Value.slice A es.length c] 25) = w1 at hX1 ⊢
   have c0 := hX1.c0
   have c1 := hX1.c1)
  have e1 : IntKind.i64.wrap ((N : Int) - 1) = ((N - 1 : Nat) : Int) := by rw [IntKind.wrap_i64]; omega
  have e2 : ((N - 1 : Nat) : Int) < (N : Int) := by omega
  have e3 : (0 : Int) ≤ ((N - 1 : Nat) : Int) := by omega
  go_wp2_with (go_at_call 96; (refine (HT w1 (HR.out.below hX1.below)).mono ?_; rintro e w2 ⟨B, t, rfl, hB, hrow, hMx, hb2⟩; have ct := hrow.cell (natL_get (n := N) (f := t) (v := N - 1) (by omega))))
  go_ret
  exact ⟨t (N - 1), rfl, (hMx (N - 1) (by omega)).congr fun v hv => hbt v hv, hX1.below.trans (hb2.mono hX1.below.size)⟩
theorem number_of {n : Nat} {es : List (Int × Int)} (hP : RightP n es) (hn : n ≤ 20) (A : Option Addr) (c : Nat) (w : World) (hr : Reads w A (pcells es)) (hc : es.length ≤ c) {M : Nat → Option Nat} (hM : IsMat n (adjE es) M) (hno : ∀ p, ¬ AugW (adjE es) M p) :
    Calls Try.prog 36 #[.agg #[.int .i64 (n : Int), .slice A es.length c]] w fun e w' => e = .returned (.int .i64 ((sizeM n M : Nat) : Int)) ∧ Below w.heap.size w w' := by
  refine (number_any hP hn A c w hr hc).mono ?_
  rintro e w' ⟨k, rfl, hk, hb⟩
  rw [hk.size (right_gr hP) hM hno (fun _ _ => rfl)]
  exact ⟨rfl, hb⟩
end Go.Proofs.Ytgddfmfiiodgbaa
