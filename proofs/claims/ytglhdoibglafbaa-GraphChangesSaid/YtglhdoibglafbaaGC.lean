/- What Add and Remove make of a row of edges (no program in sight). -/
import Derived.Test.YtglhdoibglafbaaGP
namespace Go.Proofs.Ytglhdoibglafbaa
set_option maxRecDepth 100000
set_option linter.unusedVariables false

theorem there_isB (n a b : Int) : (decide (0 ≤ min a b) && decide (max a b < n)) = (isB n a && isB n b) := by
  unfold isB
  rw [Bool.eq_iff_iff]
  simp
  omega
theorem putK_lb {n : Int} {es : List (Int × Int)} (h : RightP n es) {e : Int × Int} (hn : e ∉ es) {p : Nat} (hp : p ≤ es.length) (k1 : ∀ j d, j < p → es[j]? = some d → LtE d e) (k2 : ∀ j d, p ≤ j → es[j]? = some d → ¬ LtE d e) :
    ∀ m, p ≤ m → m ≤ es.length → putK es e m = p := by
  intro m
  induction m with
  | zero => intro h1 h2; have : p = 0 := by omega
            subst this; rfl
  | succ m ih =>
    intro h1 h2
    unfold putK
    obtain ⟨d, hd⟩ : ∃ d, es[m]? = some d := ⟨es[m], by simp⟩
    rw [hd]
    simp only
    by_cases hpm : p ≤ m
    · have hlt : LtE e d := by
        rcases LtE.or (k2 m d hpm hd) with h3 | h3
        · exact absurd (h3 ▸ List.mem_of_getElem? hd) hn
        · exact h3
      rw [if_pos ((ltE_iff e d).2 hlt)]
      exact ih hpm (by omega)
    · have : p = m + 1 := by omega
      rw [if_neg]
      · exact this.symm
      · intro hh
        exact LtE.irrefl e (((ltE_iff e d).1 hh).trans (k1 m d (by omega) hd))
theorem putE_at {n : Int} {es : List (Int × Int)} (h : RightP n es) {e : Int × Int} (hn : e ∉ es) {p : Nat} (hp : p ≤ es.length) (k1 : ∀ j d, j < p → es[j]? = some d → LtE d e) (k2 : ∀ j d, p ≤ j → es[j]? = some d → ¬ LtE d e) :
    putE es e = es.take p ++ e :: es.drop p := by
  unfold putE
  rw [putK_lb h hn hp k1 k2 es.length hp (Nat.le_refl _)]

def rmErr (n : Int) (es : List (Int × Int)) (a b : Int) : Int :=
  if rightB n es = false then 3 else if isB n a = false then 4 else if isB n b = false then 4 else if indexB n es a b < 0 then 7 else 0
def rmL (n : Int) (es : List (Int × Int)) (a b : Int) : List (Int × Int) := es.take (indexB n es a b).toNat ++ es.drop ((indexB n es a b).toNat + 1)
theorem findE_nat (es : List (Int × Int)) (e : Int × Int) : findE es e = -1 ∨ ∃ k : Nat, findE es e = k ∧ k < es.length := by
  unfold findE
  cases h : es.findIdx? (fun x => decide (x = e)) with
  | none => exact .inl rfl
  | some i =>
    obtain ⟨hi, _⟩ := List.findIdx?_eq_some_iff_getElem.1 h
    exact .inr ⟨i, rfl, hi⟩
theorem index_nat (n : Int) (es : List (Int × Int)) (a b : Int) : indexB n es a b = -1 ∨ ∃ k : Nat, indexB n es a b = k ∧ k < es.length := by
  unfold indexB
  split
  · exact findE_nat es _
  · exact .inl rfl
end Go.Proofs.Ytglhdoibglafbaa
