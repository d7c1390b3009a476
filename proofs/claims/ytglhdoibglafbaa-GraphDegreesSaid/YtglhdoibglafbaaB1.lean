/- Rows of rows of numbers, each the call's own (no program in sight). -/
import Derived.Test.YtglhdoibglafbaaBA
namespace Go.Proofs.Ytglhdoibglafbaa
open Go Go.RowKit
set_option maxRecDepth 100000
set_option linter.unusedVariables false

/-- Block B holds rows of numbers, each the call's own, no two in one block. -/
structure RowsI (w : World) (T e : TypeId) (base B : Nat) (vs : List Value) (ls : List (List Int)) : Prop where
  blk : w.heap[B]? = some (.cells vs.toArray T (0, 0))
  len : vs.length = ls.length
  own : ∀ (i : Nat) v l, vs[i]? = some v → ls[i]? = some l → w.ownsRow base e 1 v l.length (icells l)
  apart : ∀ (i j : Nat) v v' g, i ≠ j → vs[i]? = some v → vs[j]? = some v' → v.ownBlock = some g → v'.ownBlock ≠ some g
  hB : B < base

theorem heap_lt {w : World} {g : Nat} {o : Obj} (h : w.heap[g]? = some o) : g < w.heap.size := by
  rcases Nat.lt_or_ge g w.heap.size with hl | hl
  · exact hl
  · rw [Array.getElem?_eq_none hl] at h; cases h

section
variable {w w' : World} {T e : TypeId} {base B : Nat} {vs : List Value} {ls : List (List Int)}

theorem RowsI.lt (h : RowsI w T e base B vs ls) : B < w.heap.size := heap_lt h.blk

theorem RowsI.get (h : RowsI w T e base B vs ls) (i : Nat) (l : List Int) (hl : ls[i]? = some l) : ∃ v A c, vs[i]? = some v ∧ v = .slice A l.length c ∧ l.length ≤ c ∧ Reads w A (icells l) ∧ w.ownsRow base e 1 v l.length (icells l) ∧ w.cell? ⟨B, i, none⟩ = some v := by
  have hi : i < vs.length := by rw [h.len]; exact (List.getElem?_eq_some_iff.1 hl).1
  have hv : vs[i]? = some vs[i] := by simp [hi]
  have ho := h.own i _ l hv hl
  obtain ⟨A, c, h1, h2, h3⟩ := own_reads0 ho
  refine ⟨_, A, c, hv, h1, h2, h3, ho, ?_⟩
  rw [cell_of_row w B i _ T (0, 0) h.blk]
  simp [hi]

theorem RowsI.frozen (h : RowsI w T e base B vs ls) (i : Nat) : w.frozen? ⟨B, i, none⟩ = false := by simp [World.frozen?, h.blk]

theorem RowsI.far (h : RowsI w T e base B vs ls) (hk : ∀ g, g < w.heap.size → w'.heap[g]? = w.heap[g]?) : RowsI w' T e base B vs ls :=
  ⟨(hk B h.lt).trans h.blk, h.len, fun i v l hv hl => own_far (h.own i v l hv hl) fun g hg => hk g (own_lt0 (h.own i v l hv hl) g hg).2, h.apart, h.hB⟩

theorem RowsI.below (h : RowsI w T e base B vs ls) {B' : Nat} (hb : Below B' w w') (hB : w.heap.size ≤ B') : RowsI w' T e base B vs ls :=
  h.far fun g hg => hb.block g (Nat.lt_of_lt_of_le hg hB)

/-- One row has grown, and is stored back. -/
theorem RowsI.store (h : RowsI w T e base B vs ls) (i : Nat) {v v' : Value} {l' : List Int} (hv : vs[i]? = some v) (ho : w'.ownsRow base e 1 v' l'.length (icells l')) (hg : w.grownBy w' v.ownBlock)
    (hat : v'.ownBlock = v.ownBlock ∨ v'.ownBlock = some w.heap.size) : RowsI (w'.setCell ⟨B, i, none⟩ v') T e base B (vs.set i v') (ls.set i l') := by
  have hvi := (List.getElem?_eq_some_iff.1 hv).1
  have hob : ∀ (j : Nat) (u : Value) (l : List Int) (g : Nat), vs[j]? = some u → ls[j]? = some l → u.ownBlock = some g → base ≤ g ∧ g < w.heap.size := fun j u l g hu hl hg => own_lt0 (h.own j u l hu hl) g hg
  have hls : ∀ (j : Nat) (u : Value), vs[j]? = some u → ∃ l, ls[j]? = some l := fun j u hu => ⟨ls[j]'(by rw [← h.len]; exact (List.getElem?_eq_some_iff.1 hu).1), by simp⟩
  obtain ⟨l0, hl0⟩ := hls i v hv
  have hBne : some B ≠ v.ownBlock := fun hh => by have := (hob i v l0 B hv hl0 hh.symm).1; have := h.hB; omega
  have hBw' : w'.heap[B]? = some (.cells vs.toArray T (0, 0)) := (hg.block B h.lt hBne).trans h.blk
  have hset : ∀ g, g ≠ B → (w'.setCell ⟨B, i, none⟩ v').heap[g]? = w'.heap[g]? := fun g hgB => Below.heap_setCell _ _ _ _ hgB
  refine ⟨?_, by simp [h.len], ?_, ?_, h.hB⟩
  · simp [World.setCell, Array.getElem?_modify, hBw']
  · intro j u l hu hl
    by_cases hj : i = j
    · subst hj
      rw [List.getElem?_set_self hvi] at hu
      rw [List.getElem?_set_self (by rw [← h.len]; exact hvi)] at hl
      cases hu; cases hl
      exact own_far ho fun g hg' => hset g (by have := (own_lt0 ho g hg').1; have := h.hB; omega)
    · rw [List.getElem?_set_ne hj] at hu hl
      refine own_far (h.own j u l hu hl) fun g hg' => ?_
      have hh := hob j u l g hu hl hg'
      rw [hset g (by have := h.hB; omega)]
      exact hg.block g hh.2 (fun hx => h.apart i j v u g hj hv hu hx.symm hg')
  · intro j k u u' g hjk hu hu' hx
    by_cases hj : i = j
    · subst hj
      rw [List.getElem?_set_self hvi] at hu
      cases hu
      rw [List.getElem?_set_ne hjk] at hu'
      obtain ⟨lk, hlk⟩ := hls k u' hu'
      rcases hat with hat | hat
      · exact h.apart i k v u' g hjk hv hu' (hat ▸ hx)
      · intro hy
        have := (hob k u' lk g hu' hlk hy).2
        rw [hat] at hx
        cases hx
        omega
    · rw [List.getElem?_set_ne hj] at hu
      by_cases hk : i = k
      · subst hk
        rw [List.getElem?_set_self hvi] at hu'
        cases hu'
        obtain ⟨lj, hlj⟩ := hls j u hu
        rcases hat with hat | hat
        · rw [hat]; exact h.apart j i u v g hjk hu hv hx
        · intro hy
          have := (hob j u lj g hu hlj hx).2
          rw [hat] at hy
          cases hy
          omega
      · rw [List.getElem?_set_ne hk] at hu'
        exact h.apart j k u u' g hjk hu hu' hx

theorem made_nil (n : Nat) : madeCells #[.slice none 0 0] n = (List.replicate n (.slice none 0 0 : Value)).toArray := by
  apply Array.ext
  · simp [madeCells]
  · intro i h1 h2
    simp [madeCells, Nat.mod_one]

theorem RowsI.made {n : Nat} (hw : w.heap[B]? = some (.cells (madeCells #[.slice none 0 0] n) T (0, 0))) (hB : B < base) : RowsI w T e base B (List.replicate n (.slice none 0 0)) (List.replicate n []) := by
  refine ⟨by rw [hw, made_nil], by simp, ?_, ?_, hB⟩
  · intro i v l hv hl
    rw [List.getElem?_replicate] at hv hl
    split at hv
    · rw [if_pos ‹_›] at hl
      cases hv; cases hl
      exact own_nil0 _ _ _ _
    · cases hv
  · intro i j v v' g _ hv _ hg
    rw [List.getElem?_replicate] at hv
    split at hv
    · cases hv; simp [Value.ownBlock] at hg
    · cases hv
end
end Go.Proofs.Ytglhdoibglafbaa
