/- A star's gadget, plain. -/
import Derived.Test.YtglhdoibglafbaaC3
namespace Go.Proofs.Ytglhdoibglafbaa
open Go Go.RowKit
set_option maxRecDepth 100000
set_option linter.unusedVariables false

def star (k : Nat) : List (Int × Int) := (List.range k).map fun (i : Nat) => ((0 : Int), (i : Int) + 1)
theorem star_length (k : Nat) : (star k).length = k := by simp [star]
theorem star_succ (k : Nat) : star (k + 1) = star k ++ [((0 : Int), (k : Int) + 1)] := by simp [star, List.range_succ]
def wants (F : Int) (k : Nat) : List Int := F :: List.replicate k 1
theorem wants_succ (F : Int) (k : Nat) : wants F (k + 1) = wants F k ++ [1] := by simp [wants, List.replicate_succ']
theorem star_right (n : Nat) (hn : n ≤ 4000) : RightP ((n : Int) + 1) (star n) := by
  refine ⟨by omega, by omega, by rw [star_length]; omega, fun e he => ?_, ?_⟩
  · simp [star] at he
    obtain ⟨i, hi, rfl⟩ := he
    simp; omega
  · unfold star
    rw [List.pairwise_map]
    refine List.Pairwise.imp ?_ (List.pairwise_lt_range)
    intro a b hab
    unfold LtE
    simp; omega
theorem ports_star (n k : Nat) (hk : k ≤ n) : ports (n + 1) (star k) = (k : Int) :: (List.replicate k 1 ++ List.replicate (n - k) 0) := by
  induction k with
  | zero => simp [ports, star, List.replicate_succ]
  | succ k ih =>
    rw [star_succ, ports_snoc, ih (by omega)]
    unfold bump
    have h1 : ((k : Int) + 1).toNat = k + 1 := by omega
    simp only [Int.toNat_zero, h1]
    simp only [List.set_cons_zero, List.getElem?_cons_zero, Option.getD_some, List.getElem?_cons_succ, List.set_cons_succ]
    have h2 : n - k = (n - (k + 1)) + 1 := by omega
    rw [h2, List.replicate_succ]
    have h3 : (List.replicate k (1 : Int) ++ 0 :: List.replicate (n - (k + 1)) 0)[k]?.getD 0 = 0 := by simp
    rw [h3]
    have h4 : (List.replicate k (1 : Int) ++ 0 :: List.replicate (n - (k + 1)) 0).set k (0 + 1) = List.replicate (k + 1) 1 ++ List.replicate (n - (k + 1)) 0 := by
      rw [List.set_append]
      simp [List.replicate_succ']
    rw [h4]
    simp
theorem get_p (n j : Nat) (hj : j < n) : ((n : Int) :: List.replicate n 1)[j + 1]?.getD 0 = 1 := by simp [hj]
theorem get_w (F : Int) (n j : Nat) (hj : j < n) : (wants F n)[j + 1]?.getD 0 = 1 := by simp [wants, hj]
theorem gN_star (n : Nat) (F : Int) (j : Nat) (hj : j ≤ n) : gN ((n : Int) :: List.replicate n 1) (wants F n) (j + 1) = n + max (n - F) 0 + j := by
  induction j with
  | zero => simp [gN, wants, corE]
  | succ j ih =>
    rw [gN, ih (by omega), get_p n j (by omega), get_w F n j (by omega)]
    unfold corE
    omega
theorem gE_star (n : Nat) (F : Int) (b : Int) (j : Nat) (hj : j ≤ n) : gE ((n : Int) :: List.replicate n 1) (wants F n) b (j + 1) = b + n * max (n - F) 0 := by
  induction j with
  | zero => simp [gE, wants, corE]
  | succ j ih =>
    rw [gE, ih (by omega), get_p n j (by omega), get_w F n j (by omega)]
    unfold corE
    simp
theorem size_star (n : Nat) (hn : n ≤ 4000) (F : Int) (h0 : 0 ≤ F) (h1 : F ≤ 4000) :
    sizeOf3 (n + 1) (star n) (wants F n) = if 1048576 < (n : Int) + n * max (n - F) 0 then (0, 0, 13) else (2 * (n : Int) + max (n - F) 0, n + n * max (n - F) 0, 0) := by
  have hR := (right_iff _ _).2 (star_right n hn)
  have hd : degErr ((n + 1 : Nat) : Int) (star n) (wants F n) = 0 := by
    unfold degErr
    rw [if_neg (by push_cast; rw [hR]; simp), if_neg (by simp [wants]), if_neg]
    rw [idxB_no]
    · omega
    · intro j x hx
      have := List.mem_of_getElem? hx
      unfold wants at this
      unfold badDeg
      rcases List.mem_cons.1 this with h | h
      · simp; omega
      · have := (List.mem_replicate.1 h).2
        simp; omega
  unfold sizeOf3
  rw [if_neg (by rw [hd]; simp), ports_star n n (Nat.le_refl _)]
  simp only [Nat.sub_self, List.replicate_zero, List.append_nil]
  rw [gN_star n F n (Nat.le_refl _), gE_star n F _ n (Nat.le_refl _), star_length]
  have h3 : ¬ (65536 < (n : Int) + max (n - F) 0 + n) := by omega
  generalize (n : Int) * max (n - F) 0 = q
  generalize max ((n : Int) - F) 0 = r at *
  by_cases h : 1048576 < (n : Int) + q
  · rw [if_pos (Or.inr h), if_pos h]
  · rw [if_neg (fun h' => h'.elim h3 h), if_neg h]
    have : (n : Int) + r + n = 2 * n + r := by omega
    rw [this]
end Go.Proofs.Ytglhdoibglafbaa
