/- Degrees in a row of edges: what they sum up to; neighbours rise (no program in sight). -/
import Derived.Test.YtglhdoibglafbaaGN
namespace Go.Proofs.Ytglhdoibglafbaa
set_option maxRecDepth 100000
set_option linter.unusedVariables false

def degSum (es : List (Int × Int)) : Nat → Nat
  | 0 => 0
  | k + 1 => degSum es k + (nearL es k).length
def oneAt (a : Int) : Nat → Nat
  | 0 => 0
  | k + 1 => oneAt a k + if a = (k : Int) then 1 else 0
theorem oneAt_eq (a : Int) (k : Nat) : oneAt a k = if 0 ≤ a ∧ a < (k : Int) then 1 else 0 := by
  induction k with
  | zero => unfold oneAt; rw [if_neg (by omega)]
  | succ k ih =>
    unfold oneAt; rw [ih]
    by_cases h1 : a = (k : Int)
    · rw [if_neg (by omega), if_pos h1, if_pos (by omega)]
    · by_cases h2 : 0 ≤ a ∧ a < (k : Int)
      · rw [if_pos h2, if_neg h1, if_pos (by omega)]
      · rw [if_neg h2, if_neg h1, if_neg (by omega)]
theorem nearL_cons (e : Int × Int) (es : List (Int × Int)) (v : Int) : (nearL (e :: es) v).length = (nearL es v).length + ((if e.2 = v then 1 else 0) + (if e.1 = v then 1 else 0)) := by
  unfold nearL lowL highL
  by_cases h1 : e.2 = v <;> by_cases h2 : e.1 = v <;> simp [List.filter_cons, h1, h2] <;> omega
theorem degSum_cons (e : Int × Int) (es : List (Int × Int)) (k : Nat) : degSum (e :: es) k = degSum es k + (oneAt e.2 k + oneAt e.1 k) := by
  induction k with
  | zero => rfl
  | succ k ih =>
    unfold degSum oneAt
    rw [ih, nearL_cons]
    omega
theorem degSum_nil (k : Nat) : degSum [] k = 0 := by
  induction k with
  | zero => rfl
  | succ k ih => unfold degSum; rw [ih]; rfl
theorem degSum_all (es : List (Int × Int)) (n : Nat) (h : ∀ e ∈ es, 0 ≤ e.1 ∧ e.1 < (n : Int) ∧ 0 ≤ e.2 ∧ e.2 < (n : Int)) : degSum es n = 2 * es.length := by
  induction es with
  | nil => rw [degSum_nil]; rfl
  | cons e es ih =>
    have h1 := h e (by simp)
    rw [degSum_cons, ih (fun x hx => h x (List.mem_cons_of_mem _ hx)), oneAt_eq, oneAt_eq, if_pos (by omega), if_pos (by omega), List.length_cons]
    omega
theorem degSum_le (es : List (Int × Int)) (k : Nat) : degSum es k ≤ k * (es.length + es.length) := by
  induction k with
  | zero => simp [degSum]
  | succ k ih =>
    have := nearL_length es k
    unfold degSum
    rw [Nat.succ_mul]
    omega

theorem lowL_rises {n : Int} {es : List (Int × Int)} (h : RightP n es) (v : Int) : (lowL es v).Pairwise (· < ·) := by
  unfold lowL
  rw [List.pairwise_map, List.pairwise_filter]
  refine h.inc.imp ?_
  intro a b hab ha hb
  simp at ha hb
  unfold LtE at hab
  omega
theorem highL_rises {n : Int} {es : List (Int × Int)} (h : RightP n es) (v : Int) : (highL es v).Pairwise (· < ·) := by
  unfold highL
  rw [List.pairwise_map, List.pairwise_filter]
  refine h.inc.imp ?_
  intro a b hab ha hb
  simp at ha hb
  unfold LtE at hab
  omega
theorem nearL_rises {n : Int} {es : List (Int × Int)} (h : RightP n es) (v : Int) : (nearL es v).Pairwise (· < ·) := by
  unfold nearL
  rw [List.pairwise_append]
  refine ⟨lowL_rises h v, highL_rises h v, fun a ha b hb => ?_⟩
  have h1 := h.ok _ (mem_lowL.1 ha)
  have h2 := h.ok _ (mem_highL.1 hb)
  simp at h1 h2
  omega
theorem findE_at {n : Int} {es : List (Int × Int)} (h : RightP n es) (k : Nat) (e : Int × Int) (hk : es[k]? = some e) : findE es e = k := by
  refine findE_yes es e k hk fun j hj he => ?_
  have := List.pairwise_iff_getElem.1 h.inc j k (List.getElem?_eq_some_iff.1 he).1 (List.getElem?_eq_some_iff.1 hk).1 hj
  rw [(List.getElem?_eq_some_iff.1 he).2, (List.getElem?_eq_some_iff.1 hk).2] at this
  exact LtE.irrefl e this
theorem index_at {n : Int} {es : List (Int × Int)} (h : RightP n es) (k : Nat) (x y : Int) (hk : es[k]? = some (x, y)) : indexB n es y x = k := by
  have hlt := (h.ok _ (List.mem_of_getElem? hk)).2.1
  simp at hlt
  unfold indexB
  rw [if_pos ((right_iff _ _).2 h), show min y x = x by omega, show max y x = y by omega]
  exact findE_at h k _ hk
end Go.Proofs.Ytglhdoibglafbaa
