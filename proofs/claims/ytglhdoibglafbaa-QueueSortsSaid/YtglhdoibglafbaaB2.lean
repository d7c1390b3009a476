/- A row of the call's own: a cell read, a cell written (no program in sight). -/
import Derived.Test.YtglhdoibglafbaaBA
namespace Go.Proofs.Ytglhdoibglafbaa
open Go Go.RowKit
set_option maxRecDepth 100000
set_option linter.unusedVariables false

section
variable {w : World} {base e size : Nat} {v : Value} {n : Nat} {xs : List Value}

/-- Where an own row that is not empty lies. -/
theorem own_block (h : w.ownsRow base e size v n xs) (hn : 0 < n) : ∃ g c, v = .slice (some ⟨g, 0, none⟩) n c ∧ n ≤ c ∧ base ≤ g ∧ g < w.heap.size ∧
    (∀ j u, xs[j]? = some u → w.cell? ⟨g, j, none⟩ = some u) ∧ (∀ j, w.frozen? ⟨g, j, none⟩ = false) := by
  obtain ⟨h0, h2⟩ := h
  rcases h2 with ⟨rfl, rfl⟩ | ⟨g, cap, cur, rfl, hg, hh, hnc, _, hsz, htk⟩
  · omega
  · refine ⟨g, cap, rfl, hnc, hg, ?_, fun j u hu => ?_, fun j => by simp [World.frozen?, hh]⟩
    · rcases Nat.lt_or_ge g w.heap.size with hl | hl
      · exact hl
      · rw [Array.getElem?_eq_none hl] at hh; cases hh
    · rw [cell_of_row w g j cur e (0, 0) hh]
      rw [← htk, List.getElem?_take] at hu
      split at hu
      · simpa using hu
      · cases hu

/-- A cell of an own row is written. -/
theorem own_write {g c : Nat} (h : w.ownsRow base e size (.slice (some ⟨g, 0, none⟩) n c) n xs) (j : Nat) (hj : j < xs.length) (u : Value) :
    (w.setCell ⟨g, j, none⟩ u).ownsRow base e size (.slice (some ⟨g, 0, none⟩) n c) n (xs.set j u) := by
  obtain ⟨h0, h2⟩ := h
  refine ⟨by simpa using h0, ?_⟩
  rcases h2 with ⟨hv, rfl⟩ | ⟨g', cap, cur, hv, hg, hh, hnc, hcm, hsz, htk⟩
  · cases hv
  · simp only [Value.slice.injEq, Option.some.injEq, Addr.mk.injEq, and_true, true_and] at hv
    obtain ⟨rfl, rfl⟩ := hv
    refine .inr ⟨g, c, cur.setIfInBounds j u, rfl, hg, ?_, hnc, hcm, by simpa using hsz, ?_⟩
    · simp [World.setCell, Array.getElem?_modify, hh]
    · rw [Array.toList_setIfInBounds, List.take_set, htk]
theorem own_reads1 {A : Option Addr} {c m : Nat} (h : w.ownsRow base e size (.slice A m c) n xs) : Reads w A xs ∧ n ≤ c ∧ m = n := by
  obtain ⟨A', c', hv, h1, h2⟩ := own_reads0 h
  simp only [Value.slice.injEq] at hv
  obtain ⟨rfl, rfl, rfl⟩ := hv
  exact ⟨h2, h1, rfl⟩
end

theorem addr_map (b o k : Nat) : ((some ⟨b, o, none⟩ : Option Addr).map (·.add k)) = some ⟨b, o + k, none⟩ := by
  have : (⟨b, o, none⟩ : Addr).add k = ⟨b, o + k, none⟩ := by unfold Addr.add; split <;> simp_all
  simp [this]
theorem pcells_set0 (l : List (Int × Int)) (k : Nat) (x y x' : Int) (h : l[k]? = some (x, y)) : (pcells l).set (k * 2) (.int .i64 x') = pcells (l.set k (x', y)) := by
  induction l generalizing k with
  | nil => simp at h
  | cons a l ih =>
    cases k with
    | zero => simp at h; subst h; simp [pcells]
    | succ k =>
      have := ih k (by simpa using h)
      simp only [pcells, List.flatMap_cons, List.set_cons_succ] at this ⊢
      rw [← this, show (k + 1) * 2 = k * 2 + 1 + 1 by omega]
      simp
theorem pcells_set1 (l : List (Int × Int)) (k : Nat) (x y y' : Int) (h : l[k]? = some (x, y)) : (pcells l).set (k * 2 + 1) (.int .i64 y') = pcells (l.set k (x, y')) := by
  induction l generalizing k with
  | nil => simp at h
  | cons a l ih =>
    cases k with
    | zero => simp at h; subst h; simp [pcells]
    | succ k =>
      have := ih k (by simpa using h)
      simp only [pcells, List.flatMap_cons, List.set_cons_succ] at this ⊢
      rw [← this, show (k + 1) * 2 + 1 = k * 2 + 1 + 1 + 1 by omega]
      simp
end Go.Proofs.Ytglhdoibglafbaa
