/- Neighbours in a row of edges (no program in sight). -/
import Derived.Test.YtglhdoibglafbaaG2
namespace Go.Proofs.Ytglhdoibglafbaa
set_option maxRecDepth 100000
set_option linter.unusedVariables false

def lowL (es : List (Int × Int)) (v : Int) : List Int := (es.filter fun e => decide (e.2 = v)).map (·.1)
def highL (es : List (Int × Int)) (v : Int) : List Int := (es.filter fun e => decide (e.1 = v)).map (·.2)
def nearL (es : List (Int × Int)) (v : Int) : List Int := lowL es v ++ highL es v
/-- What Near tells. -/
def nearB (n : Int) (es : List (Int × Int)) (v : Int) : List Int := if rightB n es = true ∧ 0 ≤ v ∧ v < n then nearL es v else []

theorem take_one (es : List (Int × Int)) (k : Nat) (e : Int × Int) (h : es[k]? = some e) : es.take (k + 1) = es.take k ++ [e] := by
  obtain ⟨hl, rfl⟩ := List.getElem?_eq_some_iff.1 h
  exact (List.take_succ_eq_append_getElem hl)
theorem lowL_one (es : List (Int × Int)) (k : Nat) (a b : Int) (h : es[k]? = some (a, b)) (v : Int) : lowL (es.take (k + 1)) v = if b = v then lowL (es.take k) v ++ [a] else lowL (es.take k) v := by
  rw [take_one es k _ h]; unfold lowL; by_cases hb : b = v <;> simp [List.filter_cons, hb]
theorem highL_one (es : List (Int × Int)) (k : Nat) (a b : Int) (h : es[k]? = some (a, b)) (v : Int) : highL (es.take (k + 1)) v = if a = v then highL (es.take k) v ++ [b] else highL (es.take k) v := by
  rw [take_one es k _ h]; unfold highL; by_cases hb : a = v <;> simp [List.filter_cons, hb]
theorem lowL_length (es : List (Int × Int)) (v : Int) : (lowL es v).length ≤ es.length := by unfold lowL; rw [List.length_map]; exact List.length_filter_le _ _
theorem highL_length (es : List (Int × Int)) (v : Int) : (highL es v).length ≤ es.length := by unfold highL; rw [List.length_map]; exact List.length_filter_le _ _
theorem nearL_length (es : List (Int × Int)) (v : Int) : (nearL es v).length ≤ es.length + es.length := by
  have := lowL_length es v; have := highL_length es v; unfold nearL; rw [List.length_append]; omega

theorem mem_lowL {es : List (Int × Int)} {v w : Int} : w ∈ lowL es v ↔ (w, v) ∈ es := by
  unfold lowL; simp only [List.mem_map, List.mem_filter, decide_eq_true_eq]
  constructor
  · rintro ⟨⟨a, b⟩, ⟨h1, h2⟩, rfl⟩; simp at h2; subst h2; exact h1
  · intro h; exact ⟨_, ⟨h, rfl⟩, rfl⟩
theorem mem_highL {es : List (Int × Int)} {v w : Int} : w ∈ highL es v ↔ (v, w) ∈ es := by
  unfold highL; simp only [List.mem_map, List.mem_filter, decide_eq_true_eq]
  constructor
  · rintro ⟨⟨a, b⟩, ⟨h1, h2⟩, rfl⟩; simp at h2; subst h2; exact h1
  · intro h; exact ⟨_, ⟨h, rfl⟩, rfl⟩
theorem mem_nearL {es : List (Int × Int)} {v w : Int} : w ∈ nearL es v ↔ (w, v) ∈ es ∨ (v, w) ∈ es := by
  unfold nearL; rw [List.mem_append, mem_lowL, mem_highL]
theorem nearL_symm {es : List (Int × Int)} {v w : Int} (h : w ∈ nearL es v) : v ∈ nearL es w := mem_nearL.2 (mem_nearL.1 h).symm

/-- The rows of all vertices. -/
def rowsF (n : Nat) (f : Int → List Int) : List (List Int) := (List.range n).map fun v : Nat => f (v : Int)
theorem rowsF_length (n : Nat) (f : Int → List Int) : (rowsF n f).length = n := by simp [rowsF]
theorem rowsF_get (n : Nat) (f : Int → List Int) (i : Nat) (h : i < n) : (rowsF n f)[i]? = some (f i) := by simp [rowsF, h]
theorem rowsF_set (n : Nat) (f g : Int → List Int) (i : Nat) (hi : i < n) (l : List Int) (hl : l = g i) (hg : ∀ v : Nat, v ≠ i → g v = f v) : (rowsF n f).set i l = rowsF n g := by
  apply List.ext_getElem?
  intro j
  rw [List.getElem?_set]
  by_cases hj : i = j
  · subst hj; simp [rowsF, hi, hl]
  · rw [if_neg hj]
    simp only [rowsF, List.getElem?_map]
    by_cases hjn : j < n
    · simp [hjn, hg j (fun h => hj h.symm)]
    · simp [hjn]
theorem rowsF_congr (n : Nat) (f g : Int → List Int) (h : ∀ v : Nat, v < n → f v = g v) : rowsF n f = rowsF n g := by
  unfold rowsF
  apply List.map_congr_left
  intro v hv
  exact h v (List.mem_range.1 hv)

theorem rowsF_nil (n : Nat) (f : Int → List Int) (h : ∀ v, f v = []) : rowsF n f = List.replicate n [] := by
  apply List.ext_getElem?
  intro j
  simp only [rowsF, List.getElem?_map, List.getElem?_replicate]
  by_cases hj : j < n
  · simp [hj, h]
  · simp [hj]
theorem nearL_nil {n : Int} {es : List (Int × Int)} (hR : rightB n es = true) {v : Int} (hv : v < 0 ∨ n ≤ v) : nearL es v = [] := by
  apply List.eq_nil_iff_forall_not_mem.2
  intro w hw
  have hP := (right_iff n es).1 hR
  rcases mem_nearL.1 hw with h | h
  · have := hP.ok _ h; simp at this; omega
  · have := hP.ok _ h; simp at this; omega
theorem nearB_right {n : Int} {es : List (Int × Int)} (hR : rightB n es = true) (v : Int) : nearB n es v = nearL es v := by
  unfold nearB
  by_cases hv : 0 ≤ v ∧ v < n
  · rw [if_pos ⟨hR, hv⟩]
  · rw [if_neg (fun h => hv h.2), nearL_nil hR (by omega)]

end Go.Proofs.Ytglhdoibglafbaa
