/- Arguments opened: a row of numbers, a row of edges (or entries), a graph. -/
import Derived.Test.YtglhdoibglafbaaProg
import Derived.Test.YtglhdoibglafbaaB0
import Derived.SizedLaws
import Derived.Deep.SlicePairs
import Derived.Deep.Slices
import Derived.Lib.SmallJoins
import Derived.OpenShut
import Derived.WideShapes
namespace Go.Proofs.Ytglhdoibglafbaa
open Go Go.RowKit Go.WideShapes Go.ChangeShapes
set_option maxRecDepth 100000
set_option linter.unusedVariables false

theorem reach_num : reachBytes = 140737488351232 := by decide +kernel
theorem laidT : laidOutB Try.prog = true := by kernel_rfl
theorem cells_int1 : Try.prog.cellsOf 3 = 1 := by kernel_rfl
theorem bytes_int8 : Try.prog.bytesOf 3 = 8 := by kernel_rfl
theorem wf_bd {x : Int} (h : (Lit.int .i64 x).wf = true) : -9223372036854775808 ≤ x ∧ x ≤ 9223372036854775807 := by
  simp [Lit.wf, IntKind.min, IntKind.max, IntKind.signed, IntKind.bits] at h
  omega

def Fit (l : List Int) : Prop := ∀ x ∈ l, -9223372036854775808 ≤ x ∧ x ≤ 9223372036854775807
def FitP (l : List (Int × Int)) : Prop := ∀ e ∈ l, (-9223372036854775808 ≤ e.1 ∧ e.1 ≤ 9223372036854775807) ∧ (-9223372036854775808 ≤ e.2 ∧ e.2 ≤ 9223372036854775807)

section
variable {H : Type} {enc : TypeId × Value → H} {W : World} {base : Nat} {v : Value} {d : DataW H} {p : List MemPlace}

theorem cell_lt {a : Addr} {u : Value} (h : W.cell? a = some u) : a.block < W.heap.size := by
  rcases Nat.lt_or_ge a.block W.heap.size with hl | hl
  · exact hl
  · unfold World.cell? at h; rw [Array.getElem?_eq_none hl] at h; simp at h

/-- An address behind a slice that is read is plain where there is a cell. -/
theorem reads_of {a : Addr} {cs : List Value} (h : ∀ i u, cs[i]? = some u → W.cell? (a.add i) = some u) : Reads W (some a) cs := by
  by_cases h0 : cs = []
  · exact .inl h0
  · have hp : 0 < cs.length := List.length_pos_iff.2 h0
    obtain ⟨b, o, s⟩ := a
    have h1 := h 0 cs[0] (by simp [hp])
    have hspot : s = none := by simpa [Addr.add] using World.cell?_spot h1
    subst hspot
    refine .inr ⟨b, o, rfl, ?_, fun j u hj => ?_⟩
    · have := cell_lt h1
      simpa [Addr.add] using this
    · rw [← Go.WideShapes.add_plain]
      exact h j u hj

theorem op_ints (hok : Value.okWide Try.prog W .any base 26 v) (h : DataW.Trod enc Try.prog W 0 (fun _ => true) true 26 v d p) (hsz : ∀ x ∈ d.weights Try.prog 26, x ≤ reachBytes) :
    ∃ (A : Option Addr) (c : Nat) (zs : List Int), v = .slice A zs.length c ∧ zs.length ≤ c ∧ Reads W A (icells zs) ∧ c * 8 ≤ 140737488351232 ∧ Fit zs := by
  obtain ⟨a0, len, cap, rfl⟩ := okWide_slice Try.underlying26 hok
  obtain ⟨fuel, hf⟩ := h
  rcases open_ints Try.underlying26 Try.underlying3 cells_int1 hf with ⟨hcs, hx⟩ | ⟨a, len', cap', zs, hcs, _, hl, hm, hz, hx, hcell, hwz⟩
  · simp [Value.cells] at hcs
    obtain ⟨rfl, rfl, rfl⟩ := hcs
    exact ⟨none, 0, [], rfl, Nat.le_refl _, .inl rfl, by omega, by intro x hx; simp at hx⟩
  · simp [Value.cells] at hcs
    obtain ⟨rfl, rfl, rfl⟩ := hcs
    simp only [Prod.mk.injEq] at hx
    obtain ⟨rfl, rfl⟩ := hx
    simp only [if_true] at hz
    have hs := hsz (cap * 8) (by simp [DataW.weights, Try.underlying26, bytes_int8, lits]; left; omega)
    rw [reach_num] at hs
    have htl : (zs.take len).length = len := by simp; omega
    refine ⟨some a, cap, zs.take len, by rw [htl], by omega, reads_of fun i u hu => ?_, hs, fun x hx => wf_bd (hwz x (List.mem_of_mem_take hx))⟩
    have hi : i < len := by have := (List.getElem?_eq_some_iff.1 hu).1; rw [icells_length, htl] at this; exact this
    rw [hcell i (by omega)]
    simp [icells, hi] at hu
    obtain ⟨x, hx1, rfl⟩ := hu
    simp [List.getD, hx1]

theorem cells_edge2 : Try.prog.cellsOf 28 = 2 := by kernel_rfl
theorem bytes_edge : Try.prog.bytesOf 28 = 16 := by kernel_rfl

def int2 (v : Value) : Int := match v with | .int _ x => x | _ => 0
theorem op_pairs {fuel : Nat} {u : Value} {x : DataW H × List MemPlace} (hf : DataW.trod enc Try.prog W 0 (fun _ => true) true fuel 23 [u] = some x) (hsz : ∀ y ∈ x.1.weights Try.prog 23, y ≤ reachBytes) :
    ∃ (A : Option Addr) (c : Nat) (es : List (Int × Int)), u = .slice A es.length c ∧ es.length ≤ c ∧ Reads W A (pcells es) ∧ c * 16 ≤ 140737488351232 ∧ FitP es := by
  rcases Deep.open_slice_pairs Try.underlying23 Try.underlying28 cells_edge2 rfl rfl cells_int1 cells_int1 hf with ⟨hcs, hx⟩ | ⟨a, len, cap, m, n, V0, V1, D0, D1, P0, P1, hcs, _, hl, hm, hmm, hx, hcell⟩
  · simp at hcs
    subst hcs
    exact ⟨none, 0, [], rfl, Nat.le_refl _, .inl rfl, by omega, by intro x hx; simp at hx⟩
  · simp at hcs
    subst hcs hx
    simp only [if_true] at hmm
    subst hmm
    have hs := hsz (m * 16) (by simp [DataW.weights, Try.underlying23, bytes_edge]; left; omega)
    rw [reach_num] at hs
    have each : ∀ i, i < m → ∃ e : Int × Int, V0 i = .int .i64 e.1 ∧ V1 i = .int .i64 e.2 ∧ (Lit.int .i64 e.1).wf = true ∧ (Lit.int .i64 e.2).wf = true := by
      intro i hi
      obtain ⟨_, _, h0, h1⟩ := hcell i hi
      obtain ⟨x0, e0, _, w0⟩ := DataW.trod_int Try.underlying3 h0
      obtain ⟨x1, e1, _, w1⟩ := DataW.trod_int Try.underlying3 h1
      simp at e0 e1
      exact ⟨(x0, x1), e0, e1, w0, w1⟩
    let F : Nat → Int × Int := fun i => (int2 (V0 i), int2 (V1 i))
    have hF : ∀ i, i < m → V0 i = .int .i64 (F i).1 ∧ V1 i = .int .i64 (F i).2 ∧ (Lit.int .i64 (F i).1).wf = true ∧ (Lit.int .i64 (F i).2).wf = true := by
      intro i hi
      obtain ⟨⟨x, y⟩, h0, h1, h2, h3⟩ := each i hi
      simp only [F, h0, h1, int2]
      exact ⟨trivial, trivial, h2, h3⟩
    refine ⟨some a, m, (List.range len).map F, by simp, by simpa using hl, reads_of fun i u hu => ?_, hs, ?_⟩
    · have hi : i < 2 * len := by have := (List.getElem?_eq_some_iff.1 hu).1; rw [pcells_length] at this; simpa using this
      have hj : i / 2 < len := by omega
      have hp := pcells_get ((List.range len).map F) (i / 2) (F (i / 2)) (by simp [hj])
      obtain ⟨c0, c1, _, _⟩ := hcell (i / 2) (by omega)
      obtain ⟨g0, g1, _, _⟩ := hF (i / 2) (by omega)
      rcases Nat.mod_two_eq_zero_or_one i with hi2 | hi2
      · have e : i = 2 * (i / 2) := by omega
        rw [← e] at hp
        rw [hp.1] at hu
        cases hu
        rw [Nat.mul_comm, ← e] at c0
        rw [c0, g0]
      · have e : i = 2 * (i / 2) + 1 := by omega
        rw [← e] at hp
        rw [hp.2] at hu
        cases hu
        rw [Nat.mul_comm, ← e] at c1
        rw [c1, g1]
    · intro e he
      obtain ⟨i, hi, rfl⟩ := List.mem_map.1 he
      obtain ⟨_, _, w0, w1⟩ := hF i (by have := List.mem_range.1 hi; omega)
      exact ⟨wf_bd w0, wf_bd w1⟩

theorem op_edges (hok : Value.okWide Try.prog W .any base 23 v) (h : DataW.Trod enc Try.prog W 0 (fun _ => true) true 23 v d p) (hsz : ∀ x ∈ d.weights Try.prog 23, x ≤ reachBytes) :
    ∃ (A : Option Addr) (c : Nat) (es : List (Int × Int)), v = .slice A es.length c ∧ es.length ≤ c ∧ Reads W A (pcells es) ∧ c * 16 ≤ 140737488351232 ∧ FitP es := by
  obtain ⟨a0, len, cap, rfl⟩ := okWide_slice Try.underlying23 hok
  obtain ⟨fuel, hf⟩ := h
  exact op_pairs (u := .slice a0 len cap) hf hsz

theorem op_graph (hok : Value.okWide Try.prog W .any base 25 v) (h : DataW.Trod enc Try.prog W 0 (fun _ => true) true 25 v d p) (hsz : ∀ x ∈ d.weights Try.prog 25, x ≤ reachBytes) :
    ∃ (n : Int) (A : Option Addr) (c : Nat) (es : List (Int × Int)), v = .agg #[.int .i64 n, .slice A es.length c] ∧ es.length ≤ c ∧ Reads W A (pcells es) ∧ c * 16 ≤ 140737488351232 ∧ FitP es ∧ -9223372036854775808 ≤ n ∧ n ≤ 9223372036854775807 := by
  obtain ⟨v0, v1, y0, y1, n, rfl, rfl, rfl, h0, h1⟩ := Joins.open_agg2 Try.underlying25 (by kernel_rfl) (by kernel_rfl) hok h
  obtain ⟨x0, e0, _, w0⟩ := DataW.trod_int Try.underlying3 h0
  simp at e0
  subst e0
  obtain ⟨A, c, es, rfl, hc, hr, hs, hf⟩ := op_pairs (u := v1) h1 (fun y hy => hsz y (by
    simp only [DataW.weights, Try.underlying25, List.map_cons, List.map_nil, DataW.weightsEach, List.append_nil, List.mem_append]
    exact .inr hy))
  exact ⟨x0, A, c, es, rfl, hc, hr, hs, hf, wf_bd w0⟩
end
end Go.Proofs.Ytglhdoibglafbaa
