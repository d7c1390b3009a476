/- Rows of edges that are no graph (no program in sight). -/
import Derived.Test.YtglhdoibglafbaaG2
namespace Go.Proofs.Ytglhdoibglafbaa
set_option maxRecDepth 100000
set_option linter.unusedVariables false

theorem wrong_set (n : Int) (es : List (Int × Int)) (k : Nat) (x y : Int) (hk : k < es.length) (hb : x < 0 ∨ y ≤ x ∨ n ≤ y) : rightB n (es.set k (x, y)) = false :=
  right_no n _ k (by simpa using hk) (okAt_no (x := x) (y := y) (by simp [hk]) hb)

theorem wrong_twice (n : Int) (es : List (Int × Int)) (k : Nat) (e : Int × Int) (hk : es[k]? = some e) : rightB n (es.take k ++ [e] ++ es.drop k) = false := by
  have hlt := (List.getElem?_eq_some_iff.1 hk).1
  obtain ⟨x, y⟩ := e
  have h0 : (es.take k ++ [(x, y)] ++ es.drop k)[k]? = some (x, y) := by
    rw [List.append_assoc, List.getElem?_append_right (by simp; omega)]
    simp [Nat.min_eq_left (Nat.le_of_lt hlt)]
  have h1 : (es.take k ++ [(x, y)] ++ es.drop k)[k + 1]? = some (x, y) := by
    rw [List.append_assoc, List.getElem?_append_right (by simp; omega)]
    have : k + 1 - (es.take k).length = 1 := by simp; omega
    rw [this]
    simp [hk]
  have hl : k + 1 < (es.take k ++ [(x, y)] ++ es.drop k).length := by simp; omega
  by_cases hb : x < 0 ∨ y ≤ x ∨ n ≤ y
  · exact right_no n _ k (by omega) (okAt_no h0 hb)
  · refine right_no n _ (k + 1) hl ?_
    rw [okAt_succ h1 h0 (by omega) (by omega) (by omega)]
    have : cmpE x y x y = 0 := (cmpE_zero _ _ _ _).2 ⟨rfl, rfl⟩
    rw [this]
    rfl

end Go.Proofs.Ytglhdoibglafbaa
