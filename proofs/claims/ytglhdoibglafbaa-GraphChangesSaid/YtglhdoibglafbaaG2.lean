/- The lower bound in a row of edges that rise (no program in sight). -/
import Derived.Test.YtglhdoibglafbaaG1
namespace Go.Proofs.Ytglhdoibglafbaa
set_option maxRecDepth 100000
set_option linter.unusedVariables false

theorem lb_ex (e : Int × Int) : ∀ (es : List (Int × Int)), es.Pairwise LtE → ∃ p, p ≤ es.length ∧ (∀ j d, j < p → es[j]? = some d → LtE d e) ∧ (∀ j d, p ≤ j → es[j]? = some d → ¬ LtE d e)
  | [], _ => ⟨0, by simp, fun j d h => by omega, fun j d _ h => by simp at h⟩
  | x :: r, h => by
    obtain ⟨h1, h2⟩ := List.pairwise_cons.1 h
    by_cases hx : LtE x e
    · obtain ⟨p, hp, k1, k2⟩ := lb_ex e r h2
      refine ⟨p + 1, by simpa using hp, ?_, ?_⟩
      · rintro (_ | j) d hj hd
        · simp at hd; exact hd ▸ hx
        · exact k1 j d (by omega) (by simpa using hd)
      · rintro (_ | j) d hj hd
        · omega
        · exact k2 j d (by omega) (by simpa using hd)
    · refine ⟨0, by simp, fun j d hj => by omega, ?_⟩
      rintro (_ | j) d hj hd
      · simp at hd; exact hd ▸ hx
      · intro hlt
        exact hx ((h1 d (List.mem_of_getElem? (by simpa using hd))).trans hlt)

theorem cmpE_zero (a b c d : Int) : cmpE a b c d = 0 ↔ a = c ∧ b = d := by
  unfold cmpE
  constructor
  · intro h
    repeat' split at h
    all_goals omega
  · rintro ⟨rfl, rfl⟩
    simp

theorem lb_find {es : List (Int × Int)} {e : Int × Int} {p : Nat} (h1 : ∀ j d, j < p → es[j]? = some d → LtE d e) (h2 : ∀ j d, p ≤ j → es[j]? = some d → ¬ LtE d e) (hs : es.Pairwise LtE) (fnd : Bool)
    (h3 : es[p]? = none → fnd = false) (h4 : ∀ d, es[p]? = some d → fnd = decide (cmpE d.1 d.2 e.1 e.2 = 0)) : findE es e = if fnd = true then (p : Int) else -1 := by
  have hlt : ∀ j, j < p → es[j]? ≠ some e := fun j hj h => LtE.irrefl e (h1 j e hj h)
  cases hp : es[p]? with
  | none =>
    rw [h3 hp, if_neg (by simp)]
    refine findE_no es e fun j hj h => ?_
    by_cases hjp : j < p
    · exact hlt j hjp h
    · have := List.getElem?_eq_none_iff.1 hp
      omega
  | some d =>
    rw [h4 d hp]
    by_cases hd : d = e
    · subst hd
      rw [if_pos (by simp [(cmpE_zero _ _ _ _).2])]
      exact findE_yes es _ p hp hlt
    · rw [if_neg]
      · refine findE_no es e fun j hj h => ?_
        by_cases hjp : j < p
        · exact hlt j hjp h
        by_cases hjp' : j = p
        · subst hjp'
          rw [hp] at h
          exact hd (by simpa using h)
        · have hL : LtE d e := by
            have h5 := List.pairwise_iff_getElem.1 hs p j (List.getElem?_eq_some_iff.1 hp).1 hj (by omega)
            rw [(List.getElem?_eq_some_iff.1 hp).2, (List.getElem?_eq_some_iff.1 h).2] at h5
            exact h5
          exact h2 p d (Nat.le_refl _) hp hL
      · simp only [decide_eq_true_eq, cmpE_zero]
        exact fun hh => hd (Prod.ext hh.1 hh.2)

end Go.Proofs.Ytglhdoibglafbaa
