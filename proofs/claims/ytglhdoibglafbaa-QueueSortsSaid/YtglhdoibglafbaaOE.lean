/- Arguments opened: a row of entries. -/
import Derived.Test.YtglhdoibglafbaaOP
namespace Go.Proofs.Ytglhdoibglafbaa
open Go Go.RowKit Go.WideShapes Go.ChangeShapes
set_option maxRecDepth 100000
set_option linter.unusedVariables false
section
variable {H : Type} {enc : TypeId × Value → H} {W : World} {base : Nat} {v : Value} {d : DataW H} {p : List MemPlace}

theorem cells_entry2 : Try.prog.cellsOf 39 = 2 := by kernel_rfl
theorem bytes_entry : Try.prog.bytesOf 39 = 16 := by kernel_rfl

theorem op_epairs {fuel : Nat} {u : Value} {x : DataW H × List MemPlace} (hf : DataW.trod enc Try.prog W 0 (fun _ => true) true fuel 34 [u] = some x) (hsz : ∀ y ∈ x.1.weights Try.prog 34, y ≤ reachBytes) :
    ∃ (A : Option Addr) (c : Nat) (es : List (Int × Int)), u = .slice A es.length c ∧ es.length ≤ c ∧ Reads W A (pcells es) ∧ c * 16 ≤ 140737488351232 ∧ FitP es := by
  rcases Deep.open_slice_pairs Try.underlying34 Try.underlying39 cells_entry2 rfl rfl cells_int1 cells_int1 hf with ⟨hcs, hx⟩ | ⟨a, len, cap, m, n, V0, V1, D0, D1, P0, P1, hcs, _, hl, hm, hmm, hx, hcell⟩
  · simp at hcs
    subst hcs
    exact ⟨none, 0, [], rfl, Nat.le_refl _, .inl rfl, by omega, by intro x hx; simp at hx⟩
  · simp at hcs
    subst hcs hx
    simp only [if_true] at hmm
    subst hmm
    have hs := hsz (m * 16) (by simp [DataW.weights, Try.underlying34, bytes_entry]; left; omega)
    rw [reach_num] at hs
    have each : ∀ i, i < m → ∃ e : Int × Int, V0 i = .int .i64 e.1 ∧ V1 i = .int .i64 e.2 ∧ (Lit.int .i64 e.1).wf = true ∧ (Lit.int .i64 e.2).wf = true := by
      intro i hi
      obtain ⟨_, _, h0, h1⟩ := hcell i hi
      obtain ⟨x0, e0, _, w0⟩ := DataW.trod_int Try.underlying3 h0
      obtain ⟨x1, e1, _, w1⟩ := DataW.trod_int Try.underlying3 h1
      simp at e0 e1
      exact ⟨(x0, x1), e0, e1, w0, w1⟩
    let F : Nat → Int × Int := fun i => (int2 (V0 i), int2 (V1 i))
    have hF : ∀ i, i < m → V0 i = .int .i64 (F i).1 ∧ V1 i = .int .i64 (F i).2 ∧ (Lit.int .i64 (F i).1).wf = true ∧ (Lit.int .i64 (F i).2).wf = true := by
      intro i hi
      obtain ⟨⟨x, y⟩, h0, h1, h2, h3⟩ := each i hi
      simp only [F, h0, h1, int2]
      exact ⟨trivial, trivial, h2, h3⟩
    refine ⟨some a, m, (List.range len).map F, by simp, by simpa using hl, reads_of fun i u hu => ?_, hs, ?_⟩
    · have hi : i < 2 * len := by have := (List.getElem?_eq_some_iff.1 hu).1; rw [pcells_length] at this; simpa using this
      have hj : i / 2 < len := by omega
      have hp := pcells_get ((List.range len).map F) (i / 2) (F (i / 2)) (by simp [hj])
      obtain ⟨c0, c1, _, _⟩ := hcell (i / 2) (by omega)
      obtain ⟨g0, g1, _, _⟩ := hF (i / 2) (by omega)
      rcases Nat.mod_two_eq_zero_or_one i with hi2 | hi2
      · have e : i = 2 * (i / 2) := by omega
        rw [← e] at hp
        rw [hp.1] at hu
        cases hu
        rw [Nat.mul_comm, ← e] at c0
        rw [c0, g0]
      · have e : i = 2 * (i / 2) + 1 := by omega
        rw [← e] at hp
        rw [hp.2] at hu
        cases hu
        rw [Nat.mul_comm, ← e] at c1
        rw [c1, g1]
    · intro e he
      obtain ⟨i, hi, rfl⟩ := List.mem_map.1 he
      obtain ⟨_, _, w0, w1⟩ := hF i (by have := List.mem_range.1 hi; omega)
      exact ⟨wf_bd w0, wf_bd w1⟩

theorem op_entries (hok : Value.okWide Try.prog W .any base 34 v) (h : DataW.Trod enc Try.prog W 0 (fun _ => true) true 34 v d p) (hsz : ∀ x ∈ d.weights Try.prog 34, x ≤ reachBytes) :
    ∃ (A : Option Addr) (c : Nat) (es : List (Int × Int)), v = .slice A es.length c ∧ es.length ≤ c ∧ Reads W A (pcells es) ∧ c * 16 ≤ 140737488351232 ∧ FitP es := by
  obtain ⟨a0, len, cap, rfl⟩ := okWide_slice Try.underlying34 hok
  obtain ⟨fuel, hf⟩ := h
  exact op_epairs (u := .slice a0 len cap) hf hsz

end
end Go.Proofs.Ytglhdoibglafbaa
