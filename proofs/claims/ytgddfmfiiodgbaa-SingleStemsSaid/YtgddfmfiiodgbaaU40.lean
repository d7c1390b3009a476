/- An odd cycle on a stem: the path that augments (no program in sight). -/
import Derived.Test.YtgddfmfiiodgbaaU06
import Derived.Test.YtgddfmfiiodgbaaU38
namespace Go.Proofs.Ytgddfmfiiodgbaa
set_option linter.unusedVariables false
set_option linter.unusedSimpArgs false

/-- Who is ahead on the stem. -/
def stU (n j : Nat) : Nat := if j = 0 then 0 else n + j - 1
/-- The mates: of the cycle's vertices, of the stem's, of the end's. -/
def stemM (n s v : Nat) : Option Nat :=
  if v = 0 then (if 0 < s then some n else none)
  else if v < n then (if v % 2 = 1 then some (v + 1) else some (v - 1))
  else if v < n + s then (if (v - n) % 2 = 0 then some (stU n (v - n)) else if v + 1 < n + s then some (v + 1) else none)
  else none

section
variable {n s : Nat} {E : Nat → Nat → Prop}

theorem stemM_cyc_odd {v : Nat} (h1 : v < n) (h2 : v % 2 = 1) : stemM n s v = some (v + 1) := by
  unfold stemM; rw [if_neg (by omega), if_pos h1, if_pos h2]
theorem stemM_cyc_even {v : Nat} (h0 : v ≠ 0) (h1 : v < n) (h2 : v % 2 = 0) : stemM n s v = some (v - 1) := by
  unfold stemM; rw [if_neg h0, if_pos h1, if_neg (by omega)]
theorem stemM_u {j : Nat} (hn : 0 < n) (hj : j % 2 = 0) (hs : j < s) : stemM n s (stU n j) = some (n + j) := by
  unfold stemM stU
  by_cases h : j = 0
  · subst h; rw [if_pos rfl, if_pos rfl, if_pos hs]; rfl
  · rw [if_neg h, if_neg (by omega), if_neg (by omega), if_pos (by omega), if_neg (by omega), if_pos (by omega)]
    congr 1; omega
theorem stemM_last (hn : 0 < n) (hs : s % 2 = 0) : stemM n s (stU n s) = none := by
  unfold stemM stU
  by_cases h : s = 0
  · subst h; rw [if_pos rfl, if_pos rfl, if_neg (by omega)]
  · rw [if_neg h, if_neg (by omega), if_neg (by omega), if_pos (by omega), if_neg (by omega), if_neg (by omega)]
theorem stemM_end (hn : 0 < n) : stemM n s (n + s) = none := by
  unfold stemM; rw [if_neg (by omega), if_neg (by omega), if_neg (by omega)]

/-- Down the stem. -/
theorem stem_way (hn : 0 < n) (hs : s % 2 = 0) (hst : ∀ j, j < s → E (stU n j) (n + j)) : ∀ k j, j + 2 * k = s → ∃ l, EvenW E (stemM n s) (stU n j :: l) ∧ l.Nodup ∧ ∀ x ∈ l, n + j ≤ x ∧ x < n + s := by
  intro k
  induction k with
  | zero =>
    intro j hj
    obtain rfl : j = s := by omega
    exact ⟨[], .root (stemM_last hn hs), by simp, by simp⟩
  | succ k ih =>
    intro j hj
    obtain ⟨l, h1, h2, h3⟩ := ih (j + 2) (by omega)
    have e1 : stU n (j + 2) = n + j + 1 := by unfold stU; rw [if_neg (by omega)]; omega
    have e2 : stU n (j + 1) = n + j := by unfold stU; rw [if_neg (by omega)]; omega
    have h4 := hst (j + 1) (by omega)
    rw [e2] at h4
    refine ⟨(n + j) :: stU n (j + 2) :: l, .step (stemM_u hn (by omega) (by omega)) (by rw [e1]; exact h4) h1, ?_, ?_⟩
    · rw [e1, List.nodup_cons, List.nodup_cons]
      refine ⟨fun h => ?_, fun h => ?_, h2⟩
      · rcases List.mem_cons.1 h with h | h
        · omega
        · have := (h3 _ h).1; omega
      · have := (h3 _ h).1; omega
    · intro x hx
      rw [e1] at hx
      rcases List.mem_cons.1 hx with rfl | hx
      · omega
      · rcases List.mem_cons.1 hx with rfl | hx
        · omega
        · have := h3 _ hx; omega

theorem stem_start (hn : 0 < n) (hs : s % 2 = 0) (hst : ∀ j, j < s → E (stU n j) (n + j)) : ∃ l, EvenW E (stemM n s) (0 :: l) ∧ l.Nodup ∧ ∀ x ∈ l, n ≤ x ∧ x < n + s := by
  obtain ⟨l, h1, h2, h3⟩ := stem_way hn hs hst (s / 2) 0 (by omega)
  exact ⟨l, h1, h2, fun x hx => by have := h3 x hx; omega⟩

/-- Up the cycle from an odd one, and down it from an even one. -/
theorem up_way (hodd : n % 2 = 1) (h3n : 3 ≤ n) (hs : s % 2 = 0) (hcyc : ∀ v, v < n → E v ((v + 1) % n)) (hst : ∀ j, j < s → E (stU n j) (n + j)) :
    ∀ k v, v % 2 = 1 → v + 2 * k + 1 = n - 1 → ∃ l, EvenW E (stemM n s) (v :: l) ∧ (v :: l).Nodup ∧ ∀ x ∈ l, (v < x ∧ x < n) ∨ x = 0 ∨ (n ≤ x ∧ x < n + s) := by
  intro k
  induction k with
  | zero =>
    intro v hv hk
    obtain ⟨l, h1, h2, h3⟩ := stem_start (E := E) (by omega) hs hst
    have h4 := hcyc (v + 1) (by omega)
    rw [show v + 1 + 1 = n by omega, Nat.mod_self] at h4
    refine ⟨(v + 1) :: 0 :: l, .step (stemM_cyc_odd (by omega) hv) h4 h1, ?_, ?_⟩
    · rw [List.nodup_cons, List.nodup_cons, List.nodup_cons]
      refine ⟨fun h => ?_, fun h => ?_, fun h => ?_, h2⟩
      · simp only [List.mem_cons] at h
        rcases h with h | h | h
        · omega
        · omega
        · have := h3 _ h; omega
      · rcases List.mem_cons.1 h with h | h
        · omega
        · have := h3 _ h; omega
      · have := h3 _ h; omega
    · intro x hx
      simp only [List.mem_cons] at hx
      rcases hx with rfl | rfl | hx
      · left; omega
      · right; left; rfl
      · right; right; exact h3 x hx
  | succ k ih =>
    intro v hv hk
    obtain ⟨l, h1, h2, h3⟩ := ih (v + 2) (by omega) (by omega)
    have h4 := hcyc (v + 1) (by omega)
    rw [Nat.mod_eq_of_lt (by omega)] at h4
    refine ⟨(v + 1) :: (v + 2) :: l, .step (stemM_cyc_odd (by omega) hv) h4 h1, ?_, ?_⟩
    · rw [List.nodup_cons, List.nodup_cons]
      refine ⟨fun h => ?_, fun h => ?_, h2⟩
      · simp only [List.mem_cons] at h
        rcases h with h | h | h
        · omega
        · omega
        · have := h3 _ h; omega
      · rcases List.mem_cons.1 h with h | h
        · omega
        · have := h3 _ h; omega
    · intro x hx
      simp only [List.mem_cons] at hx
      rcases hx with rfl | rfl | hx
      · left; omega
      · left; omega
      · have := h3 x hx; omega
theorem down_way (hn : 3 ≤ n) (hs : s % 2 = 0) (hg : ∀ {u v}, E u v → E v u) (hcyc : ∀ v, v < n → E v ((v + 1) % n)) (hst : ∀ j, j < s → E (stU n j) (n + j)) :
    ∀ k, 2 * k + 2 < n → ∃ l, EvenW E (stemM n s) ((2 * k + 2) :: l) ∧ ((2 * k + 2) :: l).Nodup ∧ ∀ x ∈ l, x < 2 * k + 2 ∨ (n ≤ x ∧ x < n + s) := by
  intro k
  induction k with
  | zero =>
    intro hk
    obtain ⟨l, h1, h2, h3⟩ := stem_start (E := E) (by omega) hs hst
    have h4 := hcyc 0 (by omega)
    rw [Nat.mod_eq_of_lt (by omega)] at h4
    refine ⟨1 :: 0 :: l, .step (stemM_cyc_even (by omega) (by omega) (by omega)) (hg h4) h1, ?_, ?_⟩
    · rw [List.nodup_cons, List.nodup_cons, List.nodup_cons]
      refine ⟨fun h => ?_, fun h => ?_, fun h => ?_, h2⟩
      · simp only [List.mem_cons] at h
        rcases h with h | h | h
        · omega
        · omega
        · have := h3 _ h; omega
      · rcases List.mem_cons.1 h with h | h
        · omega
        · have := h3 _ h; omega
      · have := h3 _ h; omega
    · intro x hx
      simp only [List.mem_cons] at hx
      rcases hx with rfl | rfl | hx
      · left; omega
      · left; omega
      · right; exact h3 x hx
  | succ k ih =>
    intro hk
    obtain ⟨l, h1, h2, h3⟩ := ih (by omega)
    have h4 := hcyc (2 * k + 2) (by omega)
    rw [Nat.mod_eq_of_lt (by omega)] at h4
    refine ⟨(2 * k + 3) :: (2 * k + 2) :: l, .step (stemM_cyc_even (by omega) (by omega) (by omega)) (hg h4) h1, ?_, ?_⟩
    · rw [List.nodup_cons, List.nodup_cons]
      refine ⟨fun h => ?_, fun h => ?_, h2⟩
      · simp only [List.mem_cons] at h
        rcases h with h | h | h
        · omega
        · omega
        · have := h3 _ h; omega
      · rcases List.mem_cons.1 h with h | h
        · omega
        · have := h3 _ h; omega
    · intro x hx
      simp only [List.mem_cons] at hx
      rcases hx with rfl | rfl | hx
      · left; omega
      · left; omega
      · have := h3 x hx; omega

theorem stem_aug (hodd : n % 2 = 1) (hn : 3 ≤ n) (hs : s % 2 = 0) (hg : ∀ {u v}, E u v → E v u) (hcyc : ∀ v, v < n → E v ((v + 1) % n)) (hst : ∀ j, j < s → E (stU n j) (n + j)) {o : Nat} (ho : 0 < o) (hon : o < n) (hE : E o (n + s)) : ∃ p, AugW E (stemM n s) p := by
  have key : ∃ l, EvenW E (stemM n s) (o :: l) ∧ (o :: l).Nodup ∧ ∀ x ∈ o :: l, x < n + s := by
    by_cases h : o % 2 = 1
    · obtain ⟨l, h1, h2, h3⟩ := up_way (E := E) hodd hn hs hcyc hst ((n - 2 - o) / 2) o h (by omega)
      exact ⟨l, h1, h2, fun x hx => (List.mem_cons.1 hx).elim (fun e => by omega) (fun hx => by have := h3 x hx; omega)⟩
    · obtain ⟨k, rfl⟩ : ∃ k, o = 2 * k + 2 := ⟨(o - 2) / 2, by omega⟩
      obtain ⟨l, h1, h2, h3⟩ := down_way (E := E) hn hs hg hcyc hst k hon
      exact ⟨l, h1, h2, fun x hx => (List.mem_cons.1 hx).elim (fun e => by omega) (fun hx => by have := h3 x hx; omega)⟩
  obtain ⟨l, h1, h2, h3⟩ := key
  exact ⟨(n + s) :: o :: l, n + s, o, l, rfl, stemM_end (by omega), hg hE, h1, List.nodup_cons.2 ⟨fun h => by have := h3 _ h; omega, h2⟩⟩
end
end Go.Proofs.Ytgddfmfiiodgbaa

/- An odd cycle on a stem: its matching, step by step. -/
namespace Go.Proofs.Ytgddfmfiiodgbaa
open Go Go.RowKit
set_option linter.unusedVariables false
set_option linter.unusedSimpArgs false

/-- How far the cycle's mates are laid: those of the first so many. -/
def cycM (k v : Nat) : Option Nat := if v = 0 then none else if v < k then (if v % 2 = 1 then some (v + 1) else some (v - 1)) else none
theorem cycM_one (v : Nat) : cycM 1 v = none := by unfold cycM; split; rfl; rw [if_neg (by omega)]
theorem cycM_step {k : Nat} (hk : k % 2 = 1) : upd (upd (cycM k) k (some (k + 1))) (k + 1) (some k) = cycM (k + 2) := by
  funext v
  unfold upd cycM
  by_cases h0 : v = 0
  · subst h0
    rw [if_neg (by omega), if_neg (by omega), if_pos rfl, if_pos rfl]
  · by_cases h1 : v = k + 1
    · rw [if_pos h1, if_neg h0, if_pos (by omega), if_neg (by omega)]
      congr 1; omega
    · rw [if_neg h1]
      by_cases h2 : v = k
      · rw [if_pos h2, if_neg h0, if_pos (by omega), if_pos (by omega)]
        congr 1; omega
      · rw [if_neg h2, if_neg h0, if_neg h0]
        by_cases h3 : v < k
        · rw [if_pos h3, if_pos (show v < k + 2 by omega)]
        · rw [if_neg h3, if_neg (show ¬ v < k + 2 by omega)]
theorem stem_zero {n : Nat} (v : Nat) (hv : v < n) : stemM n 0 v = cycM n v := by
  unfold stemM cycM
  by_cases h0 : v = 0
  · rw [if_pos h0, if_pos h0, if_neg (by omega)]
  · rw [if_neg h0, if_neg h0, if_pos hv, if_pos hv]
/-- One vertex more on the stem. -/
theorem stem_odd {n j : Nat} (hn : 0 < n) (hj : j % 2 = 1) : ∀ v, v < n + j + 1 → stemM n (j + 1) v = if v = n + j then none else stemM n j v := by
  intro v hv
  unfold stemM
  by_cases h0 : v = 0
  · rw [if_pos h0, if_neg (show ¬ v = n + j by omega), if_pos h0, if_pos (by omega), if_pos (by omega)]
  · rw [if_neg h0, if_neg h0]
    by_cases h1 : v < n
    · rw [if_pos h1, if_neg (show ¬ v = n + j by omega), if_pos h1]
    · rw [if_neg h1, if_neg h1, if_pos (show v < n + (j + 1) by omega)]
      by_cases h2 : v = n + j
      · rw [if_pos h2, if_neg (by omega), if_neg (by omega)]
      · rw [if_neg h2, if_pos (show v < n + j by omega)]
        by_cases h3 : (v - n) % 2 = 0
        · rw [if_pos h3, if_pos h3]
        · rw [if_neg h3, if_neg h3]
          by_cases h4 : v + 1 < n + j
          · rw [if_pos (by omega), if_pos h4]
          · omega
theorem stem_even {n j : Nat} (hn : 0 < n) (hj : j % 2 = 0) : ∀ v, v < n + j + 1 → stemM n (j + 1) v = upd (upd (fun v => if v = n + j then none else stemM n j v) (stU n j) (some (n + j))) (n + j) (some (stU n j)) v := by
  intro v hv
  have hU : stU n j = if j = 0 then 0 else n + j - 1 := rfl
  unfold upd
  by_cases h2 : v = n + j
  · rw [if_pos h2]
    unfold stemM
    rw [if_neg (by omega), if_neg (by omega), if_pos (by omega), if_pos (by omega)]
    congr 2; omega
  · rw [if_neg h2]
    by_cases h3 : v = stU n j
    · rw [if_pos h3, h3]; exact stemM_u hn hj (by omega)
    · rw [if_neg h3]
      dsimp only
      rw [if_neg h2]
      unfold stemM
      by_cases h0 : v = 0
      · rw [if_pos h0, if_pos h0]
        by_cases hj0 : j = 0
        · rw [hU, if_pos hj0] at h3; exact absurd h0 h3
        · rw [if_pos (by omega), if_pos (by omega)]
      · rw [if_neg h0, if_neg h0]
        by_cases h1 : v < n
        · rw [if_pos h1, if_pos h1]
        · rw [if_neg h1, if_neg h1, if_pos (show v < n + (j + 1) by omega), if_pos (show v < n + j by omega)]
          by_cases h4 : (v - n) % 2 = 0
          · rw [if_pos h4, if_pos h4]
          · rw [if_neg h4, if_neg h4]
            have hj0 : j ≠ 0 := by omega
            rw [hU, if_neg hj0] at h3
            rw [if_pos (by omega), if_pos (by omega)]

/-- It is a matching. -/
theorem stem_mat {n s N : Nat} {E : Nat → Nat → Prop} (hodd : n % 2 = 1) (hn : 3 ≤ n) (hs : s % 2 = 0) (hN : n + s ≤ N) (hg : ∀ {u v}, E u v → E v u) (hcyc : ∀ v, v < n → E v ((v + 1) % n)) (hst : ∀ j, j < s → E (stU n j) (n + j)) : IsMat N E (stemM n s) := by
  have hval : ∀ v w, stemM n s v = some w →
      (v < n ∧ v % 2 = 1 ∧ w = v + 1) ∨ (v < n ∧ v ≠ 0 ∧ v % 2 = 0 ∧ v = w + 1) ∨ (∃ j, j < s ∧ j % 2 = 0 ∧ v = stU n j ∧ w = n + j) ∨ (∃ j, j < s ∧ j % 2 = 0 ∧ w = stU n j ∧ v = n + j) := by
    intro v w h
    unfold stemM at h
    by_cases h0 : v = 0
    · rw [if_pos h0] at h
      by_cases h1 : 0 < s
      · rw [if_pos h1] at h
        cases h
        exact .inr (.inr (.inl ⟨0, h1, rfl, by rw [h0]; rfl, rfl⟩))
      · rw [if_neg h1] at h; cases h
    · rw [if_neg h0] at h
      by_cases h1 : v < n
      · rw [if_pos h1] at h
        by_cases h2 : v % 2 = 1
        · rw [if_pos h2] at h; cases h; exact .inl ⟨h1, h2, rfl⟩
        · rw [if_neg h2] at h; cases h; exact .inr (.inl ⟨h1, h0, by omega, by omega⟩)
      · rw [if_neg h1] at h
        by_cases h2 : v < n + s
        · rw [if_pos h2] at h
          by_cases h3 : (v - n) % 2 = 0
          · rw [if_pos h3] at h; cases h
            exact .inr (.inr (.inr ⟨v - n, by omega, h3, rfl, by omega⟩))
          · rw [if_neg h3] at h
            by_cases h4 : v + 1 < n + s
            · rw [if_pos h4] at h; cases h
              refine .inr (.inr (.inl ⟨v + 1 - n, by omega, by omega, ?_, by omega⟩))
              unfold stU; rw [if_neg (by omega)]; omega
            · rw [if_neg h4] at h; cases h
        · rw [if_neg h2] at h; cases h
  have hUlt : ∀ j, j < s → stU n j < n + s := fun j hj => by unfold stU; split <;> omega
  refine ⟨fun {v w} h => ?_, fun {v w} h => ?_, fun {v w} h => ?_⟩
  · rcases hval v w h with ⟨h1, h2, rfl⟩ | ⟨h1, h2, h3, rfl⟩ | ⟨j, h1, h2, rfl, rfl⟩ | ⟨j, h1, h2, rfl, rfl⟩
    · rw [stemM_cyc_even (by omega) (by omega) (by omega)]; rfl
    · exact stemM_cyc_odd (by omega) (by omega)
    · unfold stemM
      rw [if_neg (by omega), if_neg (by omega), if_pos (by omega), if_pos (by omega)]
      congr 2; omega
    · exact stemM_u (by omega) h2 h1
  · rcases hval v w h with ⟨h1, h2, rfl⟩ | ⟨h1, h2, h3, rfl⟩ | ⟨j, h1, h2, rfl, rfl⟩ | ⟨j, h1, h2, rfl, rfl⟩
    · have := hcyc v h1
      rwa [Nat.mod_eq_of_lt (by omega)] at this
    · have := hcyc w (by omega)
      rw [Nat.mod_eq_of_lt (by omega)] at this
      exact hg this
    · exact hst j h1
    · exact hg (hst j h1)
  · rcases hval v w h with ⟨h1, h2, rfl⟩ | ⟨h1, h2, h3, rfl⟩ | ⟨j, h1, h2, rfl, rfl⟩ | ⟨j, h1, h2, rfl, rfl⟩
    · omega
    · omega
    · have := hUlt j h1; omega
    · omega
end Go.Proofs.Ytgddfmfiiodgbaa
