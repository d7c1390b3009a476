/- The sort's worlds: what the shelf says of them, in my words. -/
import Derived.Test.YtglhdoibglafbaaSL
import Derived.Test.YtglhdoibglafbaaHN
import Derived.Test.YtglhdoibglafbaaSS
import Derived.Shelf.SlSortCmp.InsertionK
namespace Go.Proofs.Ytglhdoibglafbaa
open Go Go.RowKit
set_option maxRecDepth 100000
set_option linter.unusedVariables false

def encP (x : PE) : List Value := [.int .i64 x.1, .int .i64 x.2]
theorem flat_pcells (l : List PE) : Sort.flatK encP 2 l.toArray = (pcells l).toArray := by
  refine Sort.ext_get! (by simp [pcells_length, Nat.mul_comm]) fun t ht => ?_
  have ht' : t < l.length * 2 := by simpa using ht
  rw [Sort.get_flatK _ _ _ _ (by simpa using ht')]
  have h2 : t / 2 < l.length := by omega
  obtain ⟨e, he⟩ : ∃ e, l[t / 2]? = some e := ⟨l[t / 2], by simp⟩
  obtain ⟨p0, p1⟩ := pcells_get l (t / 2) e he
  have hle : l.toArray[t / 2]! = e := by
    rw [getElem!_pos l.toArray (t / 2) (by simpa using h2)]
    simpa using (List.getElem?_eq_some_iff.1 he).2
  rw [hle]
  have hlt : t < (pcells l).toArray.size := by simp [pcells_length]; omega
  rw [getElem!_pos (pcells l).toArray t hlt]
  rcases Nat.mod_two_eq_zero_or_one t with h | h
  · have e1 : 2 * (t / 2) = t := by omega
    rw [e1] at p0
    have := (List.getElem?_eq_some_iff.1 p0).2
    rw [h]
    simpa [encP] using this.symm
  · have e1 : 2 * (t / 2) + 1 = t := by omega
    rw [e1] at p1
    have := (List.getElem?_eq_some_iff.1 p1).2
    rw [h]
    simpa [encP] using this.symm

theorem holds_of {w : World} {g : Nat} {cur : List Value} {T : TypeId} {l : List PE} (h : w.heap[g]? = some (.cells cur.toArray T (0, 0))) (ht : cur.take (l.length * 2) = pcells l) : Sort.HoldsK encP 2 w g 0 l.toArray := by
  unfold Sort.HoldsK
  rw [flat_pcells]
  intro j hj
  have hj' : j < (pcells l).length := by simpa using hj
  refine ⟨?_, by rw [Nat.zero_add]; exact blkf0 h j⟩
  rw [Nat.zero_add]
  refine blkc0 h j _ ?_
  rw [getElem!_pos (pcells l).toArray j hj]
  have hlt : j < l.length * 2 := by rw [pcells_length] at hj'; omega
  have h1 : (cur.take (l.length * 2))[j]? = (pcells l)[j]? := by rw [ht]
  rw [List.getElem?_take, if_pos hlt] at h1
  rw [List.getElem?_toArray, h1]
  simp

theorem reads_holds {w : World} {g : Nat} {d : Array PE} (h : Sort.HoldsK encP 2 w g 0 d) (hg : g < w.heap.size) : Reads w (some ⟨g, 0, none⟩) (pcells d.toList) := by
  have hf := flat_pcells d.toList
  rw [show d.toList.toArray = d by simp] at hf
  unfold Sort.HoldsK at h
  rw [hf] at h
  refine .inr ⟨g, 0, rfl, hg, fun j u hj => ?_⟩
  have hl := (List.getElem?_eq_some_iff.1 hj).1
  have h9 := (h j (by simpa using hl)).1
  rw [getElem!_pos (pcells d.toList).toArray j (by simpa using hl)] at h9
  rw [h9]
  rw [← hj]
  simp

theorem below_sort {w : World} {g m B : Nat} {d : Array PE} {os : Array Obj} (hB : B ≤ g) (hs : B ≤ w.heap.size) : Below B w (sortWorldK encP 2 w g 0 m d os) := by
  refine ⟨rfl, rfl, rfl, size_sortWorldK_c encP 2 w g 0 m d os, fun k hk => ?_⟩
  unfold sortWorldK Sort.grow Sort.putRowK Sort.putRow Sort.mapBlock Sort.ahead
  simp only
  rw [Array.getElem?_append_left (by simp; omega), Array.getElem?_modify, if_neg (by omega)]
end Go.Proofs.Ytglhdoibglafbaa
