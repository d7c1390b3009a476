/- Walks of help's In and Rises at numbers. -/
import Derived.Test.YtglhdoibglafbaaA1
namespace Go.Proofs.Ytglhdoibglafbaa
open Go Go.RowKit
set_option maxRecDepth 100000
set_option linter.unusedVariables false

set_option maxHeartbeats 2000000 in
theorem inI (l : List Int) (x : Int) (A : Option Addr) (c : Nat) (w : World) (hr : Reads w A (icells l)) (hc : l.length ≤ c) (hm : l.length ≤ 4611686018427387903) :
    Calls Try.prog 43 #[.slice A l.length c, .int .i64 x] w fun e w' => e = .returned (.bool (decide (x ∈ l))) ∧ w = w' := by
  have HM : ∀ k y, l[k]? = some y → y = x → decide (x ∈ l) = true := fun k y h e => decide_eq_true (e ▸ List.mem_of_getElem? h)
  have HN : ∀ k, (∀ i y, i < k → l[i]? = some y → y ≠ x) → l.length ≤ k → decide (x ∈ l) = false := fun k h hk => decide_eq_false (fun hm => by
    obtain ⟨i, hi⟩ := List.getElem?_of_mem hm
    exact h i x (by have := (List.getElem?_eq_some_iff.1 hi).1; omega) hi rfl)
  have HM' := Lib.hid HM
  have HN' := Lib.hid HN
  clear HM HN
  go_enter Try.func43, Try.ntmps43
  go_wp2_with fail
  go_loopw [5] (fun i wr => ∃ k : Nat, k ≤ l.length ∧ i = .int .i64 k ∧ Hid (∀ i y, i < k → l[i]? = some y → y ≠ x) ∧ wr = w) (fun i _ => l.length - (intOf i).toNat)
  case atStart => exact ⟨0, Nat.zero_le _, rfl, fun i y h => by omega, rfl⟩
  case round =>
    obtain ⟨k, hk, rfl, hall, rfl⟩ := hrel
    by_cases hlt : k < l.length
    · obtain ⟨y, hy⟩ : ∃ y, l[k]? = some y := ⟨l[k], by simp [hlt]⟩
      obtain ⟨b, o, rfl, hb, e1⟩ := hr.int k y hy
      have HY := Lib.hid hy
      clear hy hr
      by_cases hxy : y = x
      · have h1 : (y == x) = true := by simpa using hxy
        have HE := Lib.hid (HM'.out k y HY.out hxy)
        clear hxy
        go_wp2_with fail
        go_ret
        exact ⟨by rw [HE.out]; rfl, rfl⟩
      · have h1 : (y == x) = false := by simpa using hxy
        have HX := Lib.hid hxy
        clear hxy
        go_wp2_with fail
        go_roundw
        case rel => exact ⟨k + 1, by omega, by go_num, fun i z hi hz => (by
          by_cases h9 : i = k
          · subst h9; have := HY.out; rw [this] at hz; cases hz; exact HX.out
          · exact hall.out i z (by omega) hz), (by first | trivial | rfl)⟩
        case measure => simp [intOf]; omega
    · have HE := Lib.hid (HN'.out k hall.out (by omega))
      go_wp2_with fail
      go_ret
      exact ⟨by rw [HE.out]; rfl, rfl⟩

set_option maxHeartbeats 2000000 in
theorem rises_true (l : List Int) (A : Option Addr) (c : Nat) (w : World) (hr : Reads w A (icells l)) (hc : l.length ≤ c) (hm : l.length ≤ 4611686018427387903) (hp : l.Pairwise (· < ·)) :
    Calls Try.prog 42 #[.slice A l.length c] w fun e w' => e = .returned (.bool true) ∧ Below w.heap.size w w' := by
  have HP := Lib.hid hp
  clear hp
  go_enter Try.func42, Try.ntmps42
  go_wp2_with fail
  go_loopw [3] (fun i wr => ∃ k : Nat, k ≤ l.length + 1 ∧ i = .int .i64 ((k + 1 : Nat) : Int) ∧ Below w.heap.size w wr) (fun i _ => l.length + 2 - (intOf i).toNat)
  case atStart => exact ⟨0, Nat.zero_le _, rfl, Below.refl _ _⟩
  case round =>
    obtain ⟨k, hk, rfl, hb⟩ := hrel
    by_cases hlt : k + 1 < l.length
    · obtain ⟨y, hy⟩ : ∃ y, l[k]? = some y := ⟨l[k], by simp⟩
      obtain ⟨z, hz⟩ : ∃ z, l[k + 1]? = some z := ⟨l[k + 1], by simp [hlt]⟩
      obtain ⟨b, o, rfl, hbl, e1⟩ := (hr.below hb).int k y hy
      obtain ⟨b', o', hbo, _, e2⟩ := (hr.below hb).int (k + 1) z hz
      obtain ⟨rfl, rfl⟩ : b' = b ∧ o' = o := by simpa using hbo.symm
      clear hbo
      have hyz : y < z := by
        have := List.pairwise_iff_getElem.1 HP.out k (k + 1) (by omega) hlt (by omega)
        rw [(List.getElem?_eq_some_iff.1 hy).2, (List.getElem?_eq_some_iff.1 hz).2] at this
        exact this
      have hyz' : ¬ z ≤ y := by omega
      clear hy hz hr
      have i1 : ((k + 1 : Nat) : Int) < (l.length : Int) := by omega
      have i2 : ((k + 1 : Nat) : Int) - 1 = (k : Int) := by omega
      have i3 : IntKind.i64.wrap ((k + 1 : Nat) - 1 : Int) = (k : Int) := by rw [i2, IntKind.wrap_i64]; omega
      have i4 : (k : Int) < (l.length : Int) := by omega
      go_wp2_with fail
      go_quiet (fail)
      go_wp2_with fail
      go_roundw
      case rel => exact ⟨k + 1, by omega, by go_num, hb.trans (by (repeat (first | with_reducible exact Below.refl _ _ | with_reducible assumption | with_reducible refine below_drewN0 ?_ _ | with_reducible refine Below.drew ?_ | with_reducible refine Below.alloc ?_ ?_ _ | with_reducible refine Below.setCell ?_ ?_ _ | go_size | exact Below.size (by assumption))))⟩
      case measure => simp [intOf]; omega
    · go_wp2_with fail
      go_ret
      exact ⟨rfl, hb⟩

end Go.Proofs.Ytglhdoibglafbaa
